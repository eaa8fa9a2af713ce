/- Appending one element to a slice of the call's own; reading such a slice as a string; slices made empty. Condition: Go's own bound on the bytes of a slice. -/
import Derived.Test.YtinmmbnlflmobaaGreatDoorB
import Derived.Lib.UnsafeStr
namespace Go.Proofs.YtinmmbnlflmobaaGreatDoor
open Go.RowKit

section
variable {P : Program}
/-- append(s, x), x's one element laid in a new block just ahead of it. -/
theorem app_one {ops : Array Oper} {rest : List Oper} {o : Oper} {a : Act} {Q : Exit → Act → World → Prop} {w : World} (hgd : o.guard = none) (s x : Operand) (t e bytes : Nat) (size : Nat)
    (ho : o.op = .call { callee := .builtin .append, args := #[s, x], argTypes := #[t, t] }) (ht : P.underlying t = some (.slice e))
    (z : Value) (hinfo : (P.info? e).map (fun i => (i.zero, i.size, i.bytes)) = some (some z, size, bytes)) (hz : z.cells.size = size) (hsz : 0 < size)
    (B : Nat) (v : Value) (n : Nat) (xs : List Value) (hs : a.eval s = v) (hown : w.ownsRow B e size v n xs) (us : Array Value) (hx : a.eval x = .slice (some ⟨w.heap.size, 0, none⟩) 1 1) (hus : us.size = size) (h1 : ∀ u ∈ us.toList, u.oneCell' = true)
    (hn : n + 1 ≤ 4611686018427387904) (hbytes : (n + 1) * bytes ≤ 140737488355328) (hB : B ≤ w.heap.size)
    (h : ∀ g cap w', w'.ownsRow B e size (.slice (some ⟨g, 0, none⟩) (n + 1) cap) (n + 1) (xs ++ us.toList) → (∀ w0, Below B w0 w → Below B w0 w') → w.grownBy w' v.ownBlock → wpList P ops Q rest (a.put o.dst (.slice (some ⟨g, 0, none⟩) (n + 1) cap)) w') :
    wpList P ops Q (o :: rest) a (w.alloc (.cells us e)) := by
  obtain ⟨i, hi, hz0, hz1, hz2⟩ := info_parts hinfo
  refine wpList_append_own _ hgd s x t ho B e i z size bytes ht hi hz0 hz1 hz2 hz hsz v n xs hs (hown.alloc _) ⟨w.heap.size, 0, none⟩ 1 1 us.toList hx (by simpa using hus) ?_ h1 (by unfold maxLen; omega) hbytes (by simp; omega) ?_
  · intro j u hj
    have : (⟨w.heap.size, 0, none⟩ : Addr).add j = ⟨w.heap.size, j, none⟩ := by unfold Addr.add; split <;> simp_all
    rw [this]
    simp only [World.cell?, heap_alloc_new]
    simpa using hj
  · intro v' w' hown' hgrow _
    obtain ⟨g, cap, rfl⟩ : ∃ g cap, v' = .slice (some ⟨g, 0, none⟩) (n + 1) cap := by
      rcases hown'.2 with ⟨_, h0⟩ | ⟨g, cap, cur, hv, _⟩
      · omega
      · exact ⟨g, cap, hv⟩
    have hg2 : w.grownBy w' v.ownBlock := ⟨hgrow.os, hgrow.tape, hgrow.output, Nat.le_trans (by simp) hgrow.size, fun k hk hne => (hgrow.block k (by simp; omega) hne).trans (Below.heap_alloc w _ k hk)⟩
    exact h g cap w' hown' (fun w0 hb => hb.grown hg2 hB (fun k hk => (hown.lt k hk).1)) hg2
end

theorem infoU8 : (Tryz.prog.info? 5).map (fun i => (i.zero, i.size, i.bytes)) = some (some (.int .u8 0), 1, 1) := by kernel_rfl
theorem infoStr : (Tryz.prog.info? 9).map (fun i => (i.zero, i.size, i.bytes)) = some (some (.string ⟨#[]⟩), 1, 16) := by kernel_rfl

/-- A slice of bytes of the call's own. -/
def OwnB (w : World) (B : Nat) (v : Value) (l : List UInt8) : Prop := w.ownsRow B 5 1 v l.length (Lib.byteCells l)
/-- A slice of strings of the call's own. -/
def OwnS (w : World) (B : Nat) (v : Value) (l : List ByteArray) : Prop := w.ownsRow B 9 1 v l.length (l.map Value.string)

theorem OwnB.below {w w' : World} {B v l} (h : OwnB w B v l) (hb : Below w.heap.size w w') : OwnB w' B v l :=
  World.ownsRow.kept h ⟨hb.os, hb.tape, hb.output, hb.size, fun k hk _ => hb.block k hk⟩ (by cases v.ownBlock <;> simp) (row := none)
theorem OwnS.below {w w' : World} {B v l} (h : OwnS w B v l) (hb : Below w.heap.size w w') : OwnS w' B v l :=
  World.ownsRow.kept h ⟨hb.os, hb.tape, hb.output, hb.size, fun k hk _ => hb.block k hk⟩ (by cases v.ownBlock <;> simp) (row := none)
theorem OwnB.shape {w : World} {B v l} (h : OwnB w B v l) : ∃ a cap, v = .slice a l.length cap ∧ l.length ≤ cap ∧ cap ≤ maxLen := by
  rcases h.2 with ⟨hv, h0⟩ | ⟨g, cap, cur, hv, _, _, h1, h2, _⟩
  · exact ⟨none, 0, by rw [hv, h0], by omega, by unfold maxLen; omega⟩
  · exact ⟨_, cap, hv, h1, h2⟩
theorem OwnS.shape {w : World} {B v l} (h : OwnS w B v l) : ∃ a cap, v = .slice a l.length cap ∧ l.length ≤ cap ∧ cap ≤ maxLen := by
  rcases h.2 with ⟨hv, h0⟩ | ⟨g, cap, cur, hv, _, _, h1, h2, _⟩
  · exact ⟨none, 0, by rw [hv, h0], by omega, by unfold maxLen; omega⟩
  · exact ⟨_, cap, hv, h1, h2⟩
/-- What is owned, as what can be read and written. -/
theorem own_SlW {w : World} {B e size : Nat} {v : Value} {n : Nat} {xs : List Value} (h : w.ownsRow B e size v n xs) : SlW w B w.heap.size e size v n xs := by
  rcases h.2 with ⟨rfl, rfl⟩ | ⟨g, cap, cur, rfl, hg, hh, h1, h2, h3, h4⟩
  · exact ⟨h.1, none, 0, rfl, Nat.le_refl _, by unfold maxLen; omega, .inl rfl⟩
  · refine ⟨h.1, _, cap, rfl, h1, h2, .inr ⟨g, 0, cur, rfl, hg, (Array.getElem?_eq_some_iff.1 hh).1, hh, ?_, by simpa using h4⟩⟩
    rw [h3]; simpa using Nat.mul_le_mul_right size h1
theorem OwnS.strs {w : World} {B v l} (h : OwnS w B v l) (hs : ∀ s ∈ l, s.size ≤ maxLen) : StrsW w B w.heap.size v l := ⟨own_SlW h, hs⟩
theorem OwnS.of_strs {w : World} {B v l} (h : w.ownsRow B 9 1 v l.length (l.map Value.string)) : OwnS w B v l := h

/-- '[]byte{}' and '[]string{}': a new row without cells. -/
theorem OwnB.made (w : World) (B : Nat) (h : B ≤ w.heap.size) : OwnB (w.alloc (.cells #[] 5)) B (.slice (some ⟨w.heap.size, 0, none⟩) 0 0) [] :=
  World.ownsRow_made w #[] 0 h (by unfold maxLen; omega) (by simp)
theorem OwnS.made (w : World) (B : Nat) (h : B ≤ w.heap.size) : OwnS (w.alloc (.cells #[] 9)) B (.slice (some ⟨w.heap.size, 0, none⟩) 0 0) [] :=
  World.ownsRow_made w #[] 0 h (by unfold maxLen; omega) (by simp)

/-- 'string(out)' -/
theorem OwnB.conv {w : World} {B v l} (h : OwnB w B v l) : (convert 22 9 v).run Tryz.prog w = .ok (.string ⟨l.toArray⟩) w := by
  rcases h.2 with ⟨rfl, h0⟩ | ⟨g, cap, cur, rfl, _, hh, h1, h2, h3, h4⟩
  · obtain rfl : l = [] := List.eq_nil_of_length_eq_zero h0
    rw [run_convert_bytes_string _ _ _ 5 _ _ _ Tryz.underlying22 Tryz.underlying5 Tryz.underlying9]
    simp [Conv.bytesToString]; rfl
  · refine run_convert_bytes_back w _ _ 5 ⟨g, 0, none⟩ cap l Tryz.underlying22 Tryz.underlying5 Tryz.underlying9 ?_
    intro j hj
    exact World.ownsRow.cells h (g := g) rfl j _ (by simp [Lib.byteCells, hj])

/-- append(out, c) for bytes: one arm of a walk. -/
theorem app_byte {ops : Array Oper} {rest : List Oper} {o : Oper} {a : Act} {Q : Exit → Act → World → Prop} {w : World} (hgd : o.guard = none) (s x : Operand)
    (ho : o.op = .call { callee := .builtin .append, args := #[s, x], argTypes := #[22, 22] })
    (B : Nat) (v : Value) (l : List UInt8) (hs : a.eval s = v) (hown : OwnB w B v l) (c : UInt8) (hx : a.eval x = .slice (some ⟨w.heap.size, 0, none⟩) 1 1)
    (hn : l.length ≤ 70368744177664) (hB : B ≤ w.heap.size)
    (h : ∀ g cap w', OwnB w' B (.slice (some ⟨g, 0, none⟩) (l.length + 1) cap) (l ++ [c]) → (∀ w0, Below B w0 w → Below B w0 w') → w.grownBy w' v.ownBlock → wpList Tryz.prog ops Q rest (a.put o.dst (.slice (some ⟨g, 0, none⟩) (l.length + 1) cap)) w') :
    wpList Tryz.prog ops Q (o :: rest) a (w.alloc (.cells #[.int .u8 c.toNat] 5)) := by
  refine app_one hgd s x 22 5 1 1 ho Tryz.underlying22 (.int .u8 0) infoU8 rfl (by decide) B v l.length (Lib.byteCells l) hs hown #[.int .u8 c.toNat] hx rfl ?_ (by omega) (by omega) hB ?_
  · intro u hu; simp at hu; subst hu; rfl
  · intro g cap w' ho' hb hg
    refine h g cap w' ?_ hb hg
    unfold OwnB
    rw [List.length_append, Lib.byteCells_append]
    exact ho'
/-- append(out, s) for strings: one arm of a walk. -/
theorem app_str {ops : Array Oper} {rest : List Oper} {o : Oper} {a : Act} {Q : Exit → Act → World → Prop} {w : World} (hgd : o.guard = none) (s x : Operand)
    (ho : o.op = .call { callee := .builtin .append, args := #[s, x], argTypes := #[44, 44] })
    (B : Nat) (v : Value) (l : List ByteArray) (hs : a.eval s = v) (hown : OwnS w B v l) (c : ByteArray) (hx : a.eval x = .slice (some ⟨w.heap.size, 0, none⟩) 1 1)
    (hn : l.length ≤ 4398046511104) (hB : B ≤ w.heap.size)
    (h : ∀ g cap w', OwnS w' B (.slice (some ⟨g, 0, none⟩) (l.length + 1) cap) (l ++ [c]) → (∀ w0, Below B w0 w → Below B w0 w') → w.grownBy w' v.ownBlock → wpList Tryz.prog ops Q rest (a.put o.dst (.slice (some ⟨g, 0, none⟩) (l.length + 1) cap)) w') :
    wpList Tryz.prog ops Q (o :: rest) a (w.alloc (.cells #[.string c] 9)) := by
  refine app_one hgd s x 44 9 16 1 ho Tryz.underlying44 (.string ⟨#[]⟩) infoStr rfl (by decide) B v l.length (l.map Value.string) hs hown #[.string c] hx rfl ?_ (by omega) (by omega) hB ?_
  · intro u hu; simp at hu; subst hu; rfl
  · intro g cap w' ho' hb hg
    refine h g cap w' ?_ hb hg
    unfold OwnS
    rw [List.length_append, List.map_append]
    exact ho'
end Go.Proofs.YtinmmbnlflmobaaGreatDoor
