/- A slice of bytes as an argument. No condition. -/
import Derived.Test.YtinmmbnlflmobaaGreatDoorDr
import Derived.Test.YtinmmbnlflmobaaGreatDoorF
import Derived.ChangeSlices
namespace Go.Proofs.YtinmmbnlflmobaaGreatDoor
open Go.ChangeShapes Go.WideShapes Go.ChangeAt Go.RowKit
theorem cell_plainB {w : World} {a : Addr} {v : Value} (h : w.cell? a = some v) : ∃ b off, a = ⟨b, off, none⟩ := by
  obtain ⟨b, off, s⟩ := a
  cases s with
  | none => exact ⟨b, off, rfl⟩
  | some s => simp [World.cell?] at h; split at h <;> simp_all
theorem add_plainB (b off i : Nat) : (⟨b, off, none⟩ : Addr).add i = ⟨b, off + i, none⟩ := by unfold Addr.add; split <;> simp_all
/-- A slice of bytes. -/
def BytesR (w : World) (v : Value) (bs : List UInt8) : Prop := SlR w 1 v bs.length (bs.map fun b => Value.int .u8 b.toNat)
set_option maxRecDepth 100000 in
theorem open_bytes {H : Type} {enc : TypeId × Value → H} {W : World} {b0 : Nat} {held : Bool} {v : Value} {d : DataW H} {p : List MemPlace}
    (hv : Value.okWide Tryz.prog W .any b0 22 v) (h : DataW.Trod enc Tryz.prog W 0 (fun _ => true) held 22 v d p) : ∃ bs, BytesR W v bs := by
  obtain ⟨a1, len1, cap1, rfl⟩ := okWide_slice Tryz.underlying22 hv
  obtain ⟨fuel, hf⟩ := h
  rcases open_ints Tryz.underlying22 Tryz.underlying5 (by kernel_rfl) hf with ⟨h1, _⟩ | ⟨a, len, cap, ss, h1, _, h2, h3, h4, _, h5, h6⟩
  · obtain ⟨rfl, rfl, rfl⟩ : a1 = none ∧ len1 = 0 ∧ cap1 = 0 := by simpa [Value.cells] using h1
    exact ⟨[], rfl, none, 0, rfl, Nat.le_refl _, by unfold maxLen; omega, fun j u hj => by simp at hj⟩
  · obtain ⟨rfl, rfl, rfl⟩ : a1 = some a ∧ len1 = len ∧ cap1 = cap := by simpa [Value.cells] using h1
    have h4' : ss.length = cap1 := by simpa using h4
    have hr : ∀ z ∈ ss, 0 ≤ z ∧ z < 256 := by
      intro z hz
      have := h6 z hz
      simp only [Lit.wf, Bool.and_eq_true, decide_eq_true_eq] at this
      have h2 : 0 ≤ z ∧ z ≤ 255 := this
      omega
    have hln : ((ss.take len1).map fun z => UInt8.ofNat z.toNat).length = len1 := by simp; omega
    refine ⟨(ss.take len1).map fun z => UInt8.ofNat z.toNat, by simp, some a, cap1, by rw [hln], by omega, h3, fun j u hj => ?_⟩
    have hjl : j < len1 := by have := (List.getElem?_eq_some_iff.1 hj).1; simp at this; omega
    have hc5 := h5 j (by omega)
    have hc0 := h5 0 (by omega)
    obtain ⟨b0, off0, rfl⟩ : ∃ b0 off0, a = ⟨b0, off0, none⟩ := by
      obtain ⟨b0, off0, s0⟩ := a
      cases s0 with
      | none => exact ⟨_, _, rfl⟩
      | some s0 => obtain ⟨b, off, hb⟩ := cell_plainB hc0; simp [Addr.add] at hb
    refine ⟨b0, off0, rfl, ?_⟩
    rw [add_plainB] at hc5
    rw [hc5]
    have hz := hr _ (List.getElem_mem (show j < ss.length by omega))
    rw [List.getElem?_map, List.getElem?_map, List.getElem?_take, if_pos hjl, List.getElem?_eq_getElem (by omega)] at hj
    simp only [Option.map_some, Option.some.injEq] at hj
    rw [← hj, List.getD_eq_getElem?_getD, List.getElem?_eq_getElem (by omega)]
    simp only [Option.getD_some, Option.some.injEq, Value.int.injEq, true_and]
    rw [UInt8.toNat_ofNat']
    omega
theorem BytesR.below {w w' : World} {v bs} (h : BytesR w v bs) (hb : Below w.heap.size w w') : BytesR w' v bs := SlR.below h hb
theorem BytesR.shape {w : World} {v bs} (h : BytesR w v bs) : ∃ a c, v = .slice a bs.length c ∧ bs.length ≤ c ∧ c ≤ maxLen := by
  obtain ⟨_, a, c, h1, h2, h3, _⟩ := h; exact ⟨a, c, h1, h2, h3⟩
/-- a2Long of some bytes and of none. -/
theorem a2Long_any (a : Option Addr) (n c : Nat) (b : Option Addr) (m d : Nat) (w : World) (hn : n ≤ maxLen) (hm : m ≤ maxLen) :
    Calls Tryz.prog 4 #[.slice a n c, .slice b m d] w fun e w' => e = .returned (.bool (decide (3000 < n ∨ 3000 < m))) ∧ w' = w := by
  unfold maxLen at hn hm
  by_cases h : 3000 < n
  · have hI : (3000 : Int) < (n : Int) := by omega
    go_enter Tryz.func4, Tryz.ntmps4
    go_wp2
    go_ret
    exact ⟨ret_bool (by simp [h]), rfl⟩
  · have hI : ¬ ((3000 : Int) < (n : Int)) := by omega
    go_enter Tryz.func4, Tryz.ntmps4
    go_wp2
    go_ret
    exact ⟨ret_bool (by simp; omega), rfl⟩
end Go.Proofs.YtinmmbnlflmobaaGreatDoor
