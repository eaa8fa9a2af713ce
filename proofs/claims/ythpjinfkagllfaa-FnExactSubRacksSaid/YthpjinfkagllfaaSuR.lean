/- SubRacks of the reference. Conditions: strings of at most 2^20 bytes. -/
import Derived.Test.YthpjinfkagllfaaSuK
set_option linter.unusedSimpArgs false
namespace Go.Proofs.Ythpjinfkagllfaa
open Go.RowKit
attribute [local irreducible] Calls
theorem subsTo_eq {a : ByteArray} (hr : Rises a.data.toList) (ht : tileAll a.data.toList = true) (k : Nat) : (subsP k a.data.toList) = subsC k (cntOf a.data.toList) 0 :=
  subs_eq k _ _ 0 hr ht (by omega) (fun _ _ _ => rfl) (fun q h => by omega)
set_option maxHeartbeats 8000000 in
set_option maxRecDepth 20000 in
theorem specSubRacks_any (a : ByteArray) (w : World) (has : a.size ≤ 1048576) :
    Calls Try.prog 13 #[.string a] w fun e w' => ∃ v', e = .returned (.tuple #[v', .int .i64 (srE a)]) ∧ StrsW w' w.heap.size w'.heap.size v' (srV a) ∧ Below w.heap.size w w' := by
  have hma : a.size ≤ maxLen := by unfold maxLen; omega
  cases hA : isRack a
  · have HA := Lib.hid (srV_no hA)
    go_enter Try.func13, Try.ntmps13
    go_wp2_with fail
    refine (l03Rack_any _ _ hma).mono ?_
    rw [show (isPile a && decide (a.size ≤ 7)) = false from hA]
    rintro e w1 ⟨rfl, hb1⟩
    go_wp2
    go_ret2
    exact ⟨_, by rw [HA.out.2]; rfl, by rw [HA.out.1]; exact nil_strs _ _ _, hb1⟩
  · obtain ⟨hR, hta, hri⟩ := rackF hA
    have HA := Lib.hid (srV_yes hA)
    have HR := Lib.hid hR
    have h7 := hR.small
    have Hta := Lib.hid hta
    have Hri := Lib.hid hri
    clear hR hta hri
    go_enter Try.func13, Try.ntmps13
    go_wp2_with fail
    refine (l03Rack_any _ _ hma).mono ?_
    rw [show (isPile a && decide (a.size ≤ 7)) = true from hA]
    rintro e w1 ⟨rfl, hb1⟩
    have Hb1 := Lib.hid hb1
    have hz1 := hb1.size
    clear hb1 hA
    go_wp2
    go_loopw [4, 5] (fun v i wr => ∃ k : Nat, k ≤ a.size + 1 ∧ i = .int .i64 (k : Int) ∧ ∃ g cap, v = .slice (some ⟨g, 0, none⟩) (subsTo (cntOf a.data.toList) k).length cap ∧ OwnS wr w.heap.size (.slice (some ⟨g, 0, none⟩) (subsTo (cntOf a.data.toList) k).length cap) (subsTo (cntOf a.data.toList) k) ∧ Below w.heap.size w wr) (fun _ i _ => a.size + 2 - (intOf i).toNat)
    case atStart => exact ⟨0, by omega, rfl, _, _, rfl, OwnS.made w1 w.heap.size hz1, Hb1.out.alloc hz1 _⟩
    case round =>
      obtain ⟨k, hk, rfl, g, cap, rfl, hown, hb⟩ := hrel
      have Hown := Lib.hid hown; have Hb := Lib.hid hb
      have hbs := hb.size
      clear hown hb
      obtain ⟨L, hL⟩ : ∃ L, L = subsTo (cntOf a.data.toList) k := ⟨_, rfl⟩
      by_cases hlt : k ≤ a.size
      · have hltI : (k : Int) ≤ (a.size : Int) := by omega
        have hle := HR.out.all
        have hle2 := subsTo_le (cntOf a.data.toList) (k + 1) (a.size - k)
        have hsu := subsTo_succ (cntOf a.data.toList) k
        rw [show k + 1 + (a.size - k) = a.size + 1 by omega, hsu, List.length_append, List.length_map, ← subsTo_eq Hri.out Hta.out, ← hL] at hle2
        rw [← subsTo_eq Hri.out Hta.out, ← hL] at hsu
        rw [← hL] at Hown
        have Hsu := Lib.hid hsu
        have Hle := Lib.hid (show L.length + (subsP k a.data.toList).length ≤ 128 by omega)
        simp only [← hL]
        clear hle hle2 hsu hL
        go_wp2_with fail
        refine (l03Subs_any k a wr (by omega) (by omega) Hri.out Hta.out).mono ?_
        rintro e w2 ⟨g2, cap2, rfl, hR2, hb2⟩
        obtain ⟨R, hRR⟩ : ∃ R, R = subsP k a.data.toList := ⟨_, rfl⟩
        rw [← hRR] at hR2 Hle Hsu ⊢
        have HR2 := Lib.hid hR2
        have Hb2 := Lib.hid hb2
        have HL2 := Lib.hid (Hown.out.below hb2)
        have HB2 := Lib.hid (Hb.out.trans (hb2.mono hbs))
        have hn := Hle.out
        have hz2 := HB2.out.size
        clear hR2 hb2 hRR
        go_wp2_with (at_builtin; refine app_strs_at (w := w2) rfl _ _ rfl w.heap.size (.slice (some ⟨g, 0, none⟩) L.length cap) L rfl HL2.out (by simp) ⟨g2, 0, none⟩ R.length cap2 (R.map mkT) (List.length_map ..) rfl (fun j u hj => World.ownsRow.cells HR2.out (g := g2) rfl j u hj) (by omega) hz2 (L.length + R.length) rfl (L ++ R.map mkT) rfl ?_; intro g3 cap3 w3 hown3 hgr3 hloc3)
        have HB3 := Lib.hid (HB2.out.grown hgr3 hz2 (fun q hq => (World.ownsRow.lt HL2.out q hq).1))
        have Hown3 := Lib.hid hown3
        have hlen : L.length + R.length = (L ++ R.map mkT).length := by rw [List.length_append, List.length_map]
        have Hlen := Lib.hid hlen
        clear hown3 hgr3 hloc3 hlen
        go_wp2
        go_roundw
        case rel => exact ⟨k + 1, by omega, by go_num, g3, cap3, by rw [Hsu.out, Hlen.out], by rw [Hsu.out, ← Hlen.out]; exact Hown3.out, HB3.out⟩
        case measure => simp [intOf]; omega
      · obtain rfl : k = a.size + 1 := by omega
        have hltI : ¬ ((a.size + 1 : Nat) : Int) ≤ (a.size : Int) := by omega
        clear hL
        go_wp2
        go_ret2
        exact ⟨_, by rw [HA.out.2]; rfl, by rw [HA.out.1]; exact Hown.out.strs (subsTo_max _ h7), Hb.out⟩
end Go.Proofs.Ythpjinfkagllfaa
