/- TilesText: the reference's and the program's text of a tile set. Condition: the table of powers of ten as the row lists it. -/
import Derived.Test.YtinmmbnlflmobaaGreatDoorDc
import Derived.Test.YtinmmbnlflmobaaGreatDoorIg
import Derived.Maps.AppendAt
import Derived.IntWalk
import Derived.Deep.AppendLies
namespace Go.Proofs.YtinmmbnlflmobaaGreatDoor
open Go.RowKit

theorem ba_data_app (a b : ByteArray) : (a ++ b).data.toList = a.data.toList ++ b.data.toList := by simp
theorem ext_one (s : ByteArray) (k : Nat) (h : k < s.size) : (s.extract k (k + 1)).data.toList = [s[k]] := by
  rw [ByteArray.data_extract, Array.toList_extract]
  simp only [List.extract_eq_take_drop]
  have hk : k < s.data.toList.length := by simpa using h
  rw [List.drop_eq_getElem_cons hk, show k + 1 - k = 1 by omega]
  rfl
theorem ba_of {r : ByteArray} {l : List UInt8} (h : r.data.toList = l) : r = ⟨l.toArray⟩ := by
  subst h; rfl
theorem ba_len {r : ByteArray} {l : List UInt8} (h : r.data.toList = l) : r.size = l.length := by
  subst h; exact Array.length_toList.symm
/-- The word of one kind of tile. -/
def tileW (x : TileD) (i : Nat) : List UInt8 := x.letters.data.toList.getD i 0 :: (Lib.itoa (x.values.getD i 0) ++ 120 :: Lib.itoa (x.counts.getD i 0))
/-- The text of the first j kinds. -/
def textTo (x : TileD) : Nat → List UInt8
  | 0 => []
  | j + 1 => textTo x j ++ ((if j = 0 then [] else [32]) ++ tileW x j)
def textL (x : TileD) : List UInt8 := textTo x x.letters.size ++ (if 0 < x.blanks then 32 :: 63 :: 120 :: Lib.itoa x.blanks else [])
noncomputable def textV (x : TileD) : ByteArray := if tilB x = true then ⟨(textL x).toArray⟩ else ⟨#[]⟩
theorem textV_no {x : TileD} (h : tilB x = false) : textV x = ⟨#[]⟩ := by simp [textV, h]
theorem textV_yes {x : TileD} (h : tilB x = true) : textV x = ⟨(textL x).toArray⟩ := by simp [textV, h]
theorem itoa_le {n : Int} (h0 : 0 ≤ n) (h1 : n ≤ 20) : (Lib.itoa n).length ≤ 20 := itoa_len (by omega) (by omega)
theorem tileW_at {x : TileD} {j : Nat} (hj : j < x.letters.size) (hv : j < x.values.length) (hc : j < x.counts.length) : tileW x j = x.letters[j] :: (Lib.itoa x.values[j] ++ 120 :: Lib.itoa x.counts[j]) := by
  unfold tileW
  have e1 : x.letters.data.toList.getD j 0 = x.letters[j] := by rw [List.getD_eq_getElem?_getD, List.getElem?_eq_getElem (by simpa using hj)]; rfl
  have e2 : x.values.getD j 0 = x.values[j] := by rw [List.getD_eq_getElem?_getD, List.getElem?_eq_getElem hv]; rfl
  have e3 : x.counts.getD j 0 = x.counts[j] := by rw [List.getD_eq_getElem?_getD, List.getElem?_eq_getElem hc]; rfl
  rw [e1, e2, e3]
theorem tileW_le {x : TileD} (H : TilP x) {j : Nat} (hj : j < x.letters.size) : (tileW x j).length ≤ 42 := by
  have hv : j < x.values.length := by have := H.lv; omega
  have hc : j < x.counts.length := by have := H.lc; omega
  rw [tileW_at hj hv hc]
  have h1 := itoa_le (H.va j hv).1 (H.va j hv).2
  have h2 := itoa_le (n := x.counts[j]) (by have := (H.co j hc).1; omega) (H.co j hc).2
  simp; omega
theorem textTo_le {x : TileD} (H : TilP x) (j : Nat) (hj : j ≤ x.letters.size) : (textTo x j).length ≤ 43 * j := by
  induction j with
  | zero => simp [textTo]
  | succ j ih =>
    have h1 := ih (by omega)
    have h2 := tileW_le H (show j < x.letters.size by omega)
    have h3 : (if j = 0 then ([] : List UInt8) else [32]).length ≤ 1 := by split <;> simp
    simp only [textTo, List.length_append]; omega
theorem textTo_le2 {x : TileD} (H : TilP x) (j : Nat) (hj : j ≤ x.letters.size) : (textTo x j).length ≤ 1118 := by
  have := textTo_le H j hj
  have := H.n2
  omega
theorem big1 {n : Nat} (h : n ≤ 20) : (9223372036854775807 < 1 + n) = False := eq_false (by omega)
theorem big2 {n : Nat} (h : n ≤ 20) : (9223372036854775807 < 1 + n + 1) = False := eq_false (by omega)
theorem big3 {n m : Nat} (h : n ≤ 20) (h2 : m ≤ 20) : (9223372036854775807 < 1 + n + 1 + m) = False := eq_false (by omega)
theorem big4 {k n m : Nat} (h0 : k ≤ 1119) (h : n ≤ 20) (h2 : m ≤ 20) : (9223372036854775807 < k + (1 + n + 1 + m)) = False := eq_false (by omega)
/-- The decimal form, by its bytes. -/
theorem l01Dec_s (n : Int) (w : World) (h0 : 0 ≤ n) (h1 : n ≤ 20) :
    Calls Tryz.prog 90 #[.int .i64 n] w fun e w' => ∃ r : ByteArray, e = .returned (.string r) ∧ r.data.toList = Lib.itoa n ∧ r.size ≤ 20 ∧ Below w.heap.size w w' := by
  refine (l01Dec_any n w (by omega) (by omega)).mono ?_
  rintro e w' ⟨rfl, hb⟩
  exact ⟨_, rfl, rfl, by rw [ba_len rfl]; exact itoa_le h0 h1, hb⟩
theorem decimal_s (n : Int) (w : World) (h0 : 0 ≤ n) (h1 : n ≤ 20) (ht : TabP w) :
    Calls Tryz.prog 23 #[.int .i64 n] w fun e w' => ∃ r : ByteArray, e = .returned (.string r) ∧ r.data.toList = Lib.itoa n ∧ r.size ≤ 20 ∧ Below w.heap.size w w' := by
  refine (implDecimal_any n w (by omega) (by omega) ht).mono ?_
  rintro e w' ⟨rfl, hb⟩
  exact ⟨_, rfl, rfl, by rw [ba_len rfl]; exact itoa_le h0 h1, hb⟩

section
attribute [local irreducible] Calls
set_option maxHeartbeats 4000000 in
set_option maxRecDepth 20000 in
theorem l02Text_any (g : Nat) (x : TileD) (a : Option Addr) (c : Nat) (b : Option Addr) (d : Nat) (w : World) (hx : TilBox w g x a c b d) (H : TilP x) :
    Calls Tryz.prog 69 #[.pointer (some ⟨g, 0, none⟩)] w fun e w' => e = .returned (.string ⟨(textL x).toArray⟩) ∧ Below w.heap.size w w' := by
  have HX := Lib.hid hx
  have HP := Lib.hid H
  obtain ⟨b', d', e1, -, hdm, -⟩ := hx.n.shape
  injection e1 with e1 e2 e3
  subst e1
  subst e3
  obtain ⟨b', d', e1, -, hcm, -⟩ := hx.v.shape
  injection e1 with e1 e4 e3
  subst e1
  subst e3
  unfold maxLen at hdm hcm
  have hl26 := H.n2
  have hl1 := H.n1
  have hb4 := H.b4
  have hb0 := H.b0
  have hlc := Lib.hid H.lc
  have hlv := Lib.hid H.lv
  clear hx H e2 e4
  go_enter Tryz.func69, Tryz.ntmps69
  go_wp2
  go_loopw [3, 4] (fun t i wr => ∃ (j : Nat) (r : ByteArray), j ≤ x.letters.size ∧ i = .int .i64 (j : Int) ∧ t = .string r ∧ Hid (r.data.toList = textTo x j) ∧ Hid (TilBox wr g x a c b d) ∧ Below w.heap.size w wr) (fun _ i _ => x.letters.size - (intOf i).toNat)
  case atStart => exact ⟨0, ⟨#[]⟩, by omega, rfl, rfl, Lib.hid rfl, HX, Below.refl _ _⟩
  case round =>
    obtain ⟨j, r, hj, rfl, rfl, HR, HXr, hbr⟩ := hrel
    have HB := Lib.hid hbr
    have k0 := HXr.out.c0
    have k1 := HXr.out.c1
    have k2 := HXr.out.c2
    have k3 := HXr.out.c3
    have hle : r.size ≤ 1118 := by rw [ba_len HR.out]; exact textTo_le2 HP.out j hj
    clear hbr HX
    by_cases hlt : j < x.letters.size
    · have hltc : j < x.counts.length := by have := hlc.out; omega
      have hltv : j < x.values.length := by have := hlv.out; omega
      obtain ⟨b', d', e1, -, -, hcs⟩ := HXr.out.n.shape
      injection e1 with e1 e2 e3
      subst e1
      subst e3
      obtain ⟨b1, o1, rfl, hc1, -⟩ := hcs j hltc
      clear hcs e2
      obtain ⟨b', d', e1, -, -, hcs⟩ := HXr.out.v.shape
      injection e1 with e1 e2 e3
      subst e1
      subst e3
      obtain ⟨b2, o2, rfl, hc2, -⟩ := hcs j hltv
      clear hcs e2
      obtain ⟨hco1, hco2⟩ := HP.out.co j hltc
      obtain ⟨hva1, hva2⟩ := HP.out.va j hltv
      have hco0 : 0 ≤ x.counts[j] := by omega
      obtain ⟨l1, hl1e⟩ : ∃ l1, x.letters.extract j (j + 1) = l1 := ⟨_, rfl⟩
      have HL1 := Lib.hid (hl1e ▸ ext_one x.letters j hlt : l1.data.toList = [x.letters[j]])
      have hl1s : l1.size = 1 := ba_len HL1.out
      have Hst := Lib.hid (tileW_at hlt hltv hltc)
      have hltI : (j : Int) < (x.letters.size : Int) := by omega
      have hltI2 : (j : Int) + 1 ≤ (x.letters.size : Int) := by omega
      have hltcI : (j : Int) < (x.counts.length : Int) := by omega
      have hltvI : (j : Int) < (x.values.length : Int) := by omega
      by_cases hp : 0 < j
      · obtain ⟨r', hr'⟩ : ∃ r', r ++ (⟨#[32]⟩ : ByteArray) = r' := ⟨_, rfl⟩
        have hrs : r'.size ≤ 1119 := by rw [← hr', ByteArray.size_append]; show r.size + 1 ≤ _; omega
        go_wp2
        have f1 : (0 : Int) ≤ (j : Int) := by omega
        have f2 : (j : Int) ≤ (x.letters.size : Int) := by omega
        have f3 : (j : Int) ≤ (j : Int) + 1 := by omega
        have f4 : (0 : Int) ≤ (j : Int) + 1 := by omega
        have f5 : ((j : Int) + 1).toNat = j + 1 := by omega
        have f6 : IntKind.i64.wrap ((j : Int) + 1) = (j : Int) + 1 := IntWalk.i64_in _ (by omega)
        go_region_held3 (fun w' => w'.cell? ⟨g, 0, none⟩ = some (.string x.letters) ∧ w'.cell? ⟨g, 1, none⟩ = some (.slice (some ⟨b2, o2, none⟩) x.values.length c) ∧ w'.cell? ⟨b2, o2 + j, none⟩ = some (.int .i64 x.values[j]) ∧ w'.cell? ⟨g, 2, none⟩ = some (.slice (some ⟨b1, o1, none⟩) x.counts.length d) ∧ w'.cell? ⟨b1, o1 + j, none⟩ = some (.int .i64 x.counts[j]) ∧ Below wr.heap.size wr w')
          (first | exact ⟨k0, k1, hc2, k2, hc1, (Below.refl _ _).drew⟩ | exact keepC hbk (by assumption) fun h => keepC hbk h fun h => keepC hbk h fun h => keepC hbk h fun h => keepC hbk h fun h => keepE hbk h)
          (first
            | (go_at_call 90; refine (l01Dec_s x.values[j] _ hva1 hva2).mono ?_; rintro e w2 ⟨r1, rfl, hr1, hr1s, hbk⟩; have HR1 := Lib.hid hr1; have hs1 : (9223372036854775807 < 1 + r1.size) = False := big1 hr1s; have hs2 : (9223372036854775807 < 1 + r1.size + 1) = False := big2 hr1s; clear hr1)
            | (go_at_call 90; refine (l01Dec_s x.counts[j] _ hco0 hco2).mono ?_; rintro e w3 ⟨r2, rfl, hr2, hr2s, hbk⟩; have HR2 := Lib.hid hr2; have hs3 : (9223372036854775807 < 1 + r1.size + 1 + r2.size) = False := big3 hr1s hr2s; have hs4 : (9223372036854775807 < r'.size + (1 + r1.size + 1 + r2.size)) = False := big4 hrs hr1s hr2s; clear hr2))
        clear f1 f2 f3 f4 f5 f6
        have hb := (by assumption : _ ∧ _ ∧ _ ∧ _ ∧ _ ∧ Below wr.heap.size wr w3).2.2.2.2.2
        have HXn := Lib.hid (HXr.out.below hb)
        have HBn := Lib.hid (HB.out.trans (hb.mono HB.out.size))
        clear hb
        go_wp2
        go_roundw
        case rel => exact ⟨j + 1, r' ++ (l1 ++ r1 ++ ⟨#[120]⟩ ++ r2), by omega, by go_num, rfl, Lib.hid (by simp only [textTo, ba_data_app, HR.out, HR1.out, HR2.out, HL1.out, Hst.out, ← hr', if_neg (show ¬ j = 0 by omega)]; simp), HXn, HBn.out⟩
        case measure => simp [intOf]; omega
      · go_wp2
        have f1 : (0 : Int) ≤ (j : Int) := by omega
        have f2 : (j : Int) ≤ (x.letters.size : Int) := by omega
        have f3 : (j : Int) ≤ (j : Int) + 1 := by omega
        have f4 : (0 : Int) ≤ (j : Int) + 1 := by omega
        have f5 : ((j : Int) + 1).toNat = j + 1 := by omega
        have f6 : IntKind.i64.wrap ((j : Int) + 1) = (j : Int) + 1 := IntWalk.i64_in _ (by omega)
        go_region_held3 (fun w' => w'.cell? ⟨g, 0, none⟩ = some (.string x.letters) ∧ w'.cell? ⟨g, 1, none⟩ = some (.slice (some ⟨b2, o2, none⟩) x.values.length c) ∧ w'.cell? ⟨b2, o2 + j, none⟩ = some (.int .i64 x.values[j]) ∧ w'.cell? ⟨g, 2, none⟩ = some (.slice (some ⟨b1, o1, none⟩) x.counts.length d) ∧ w'.cell? ⟨b1, o1 + j, none⟩ = some (.int .i64 x.counts[j]) ∧ Below wr.heap.size wr w')
          (first | exact ⟨k0, k1, hc2, k2, hc1, (Below.refl _ _).drew⟩ | exact keepC hbk (by assumption) fun h => keepC hbk h fun h => keepC hbk h fun h => keepC hbk h fun h => keepC hbk h fun h => keepE hbk h)
          (first
            | (go_at_call 90; refine (l01Dec_s x.values[j] _ hva1 hva2).mono ?_; rintro e w2 ⟨r1, rfl, hr1, hr1s, hbk⟩; have HR1 := Lib.hid hr1; have hs1 : (9223372036854775807 < 1 + r1.size) = False := big1 hr1s; have hs2 : (9223372036854775807 < 1 + r1.size + 1) = False := big2 hr1s; clear hr1)
            | (go_at_call 90; refine (l01Dec_s x.counts[j] _ hco0 hco2).mono ?_; rintro e w3 ⟨r2, rfl, hr2, hr2s, hbk⟩; have HR2 := Lib.hid hr2; have hs3 : (9223372036854775807 < 1 + r1.size + 1 + r2.size) = False := big3 hr1s hr2s; have hs4 : (9223372036854775807 < r.size + (1 + r1.size + 1 + r2.size)) = False := big4 (Nat.le_succ_of_le hle) hr1s hr2s; clear hr2))
        clear f1 f2 f3 f4 f5 f6
        have hb := (by assumption : _ ∧ _ ∧ _ ∧ _ ∧ _ ∧ Below wr.heap.size wr w3).2.2.2.2.2
        have HXn := Lib.hid (HXr.out.below hb)
        have HBn := Lib.hid (HB.out.trans (hb.mono HB.out.size))
        clear hb
        go_wp2
        go_roundw
        case rel => exact ⟨j + 1, r ++ (l1 ++ r1 ++ ⟨#[120]⟩ ++ r2), by omega, by go_num, rfl, Lib.hid (by simp only [textTo, ba_data_app, HR.out, HR1.out, HR2.out, HL1.out, Hst.out, if_pos (show j = 0 by omega)]; simp), HXn, HBn.out⟩
        case measure => simp [intOf]; omega
    · obtain rfl : j = x.letters.size := by omega
      by_cases hbl : 0 < x.blanks
      · have Ht := Lib.hid (show textL x = textTo x x.letters.size ++ 32 :: 63 :: 120 :: Lib.itoa x.blanks by unfold textL; rw [if_pos hbl])
        go_wp2_with fail
        refine (l01Dec_s x.blanks _ (by omega) (by omega)).mono ?_
        rintro e w2 ⟨r1, rfl, hr1, hr1s, hb1⟩
        have HR1 := Lib.hid hr1
        clear hr1
        go_wp2
        go_ret
        exact ⟨ret_str (ba_of (by rw [ba_data_app, ba_data_app, HR.out, HR1.out, Ht.out]; rfl)), HB.out.trans (hb1.mono HB.out.size)⟩
      · have Ht := Lib.hid (show textL x = textTo x x.letters.size by unfold textL; rw [if_neg hbl, List.append_nil])
        go_wp2
        go_ret
        exact ⟨ret_str (ba_of (by rw [HR.out, Ht.out])), HB.out⟩
end
/-- The words of the first j kinds. -/
def wordsTo (x : TileD) (j : Nat) : List ByteArray := (List.range j).map fun i => ⟨(tileW x i).toArray⟩
theorem wordsTo_succ (x : TileD) (j : Nat) : wordsTo x (j + 1) = wordsTo x j ++ [⟨(tileW x j).toArray⟩] := by
  unfold wordsTo; rw [List.range_succ, List.map_append]; rfl
theorem wordsTo_len (x : TileD) (j : Nat) : (wordsTo x j).length = j := by simp [wordsTo]
theorem join_snoc {xs : List (List UInt8)} {sep y : List UInt8} (h : xs ≠ []) : Lib.join (xs ++ [y]) sep = Lib.join xs sep ++ (sep ++ y) := by
  cases xs with
  | nil => exact absurd rfl h
  | cons a r =>
    rw [List.cons_append, Lib.join_cons, Lib.join_cons]
    simp [Lib.joinTail]
theorem join_words (x : TileD) (j : Nat) : Lib.join ((wordsTo x j).map (·.data.toList)) [32] = textTo x j := by
  induction j with
  | zero => rfl
  | succ j ih =>
    rw [wordsTo_succ, List.map_append]
    by_cases h0 : j = 0
    · subst h0; simp [wordsTo, textTo, Lib.join_one]
    · rw [List.map_cons, List.map_nil, join_snoc (by intro e; have := congrArg List.length e; rw [List.length_map, wordsTo_len] at this; exact h0 this), ih]
      simp only [textTo, if_neg h0]
theorem TilBox.part {w w' : World} {g x a c b d B} (h : TilBox w g x a c b d) (hb : Below B w w') (hg : g < B) (hv : Ints w' (.slice a x.values.length c) x.values) (hn : Ints w' (.slice b x.counts.length d) x.counts) : TilBox w' g x a c b d :=
  ⟨(hb.cell (p := ⟨g, 0, none⟩) hg).trans h.c0, (hb.cell (p := ⟨g, 1, none⟩) hg).trans h.c1, (hb.cell (p := ⟨g, 2, none⟩) hg).trans h.c2, (hb.cell (p := ⟨g, 3, none⟩) hg).trans h.c3, h.l, hv, hn, h.k⟩
/-- append(out, s) at a step of a region that draws its order. -/
theorem step_str {ops : Array Oper} {o : Oper} {a : Act} {K : Act → World → Prop} {Q : Exit → Act → World → Prop} {E : Prop} {w : World} (hgd : o.guard = none) (s x : Operand)
    (ho : o.op = .call { callee := .builtin .append, args := #[s, x], argTypes := #[44, 44] })
    (B : Nat) (v : Value) (l : List ByteArray) (hs : a.eval s = v) (hown : OwnS w B v l) (c : ByteArray) (hx : a.eval x = .slice (some ⟨w.heap.size, 0, none⟩) 1 1)
    (hn : l.length ≤ 4398046511104) (hB : B ≤ w.heap.size)
    (h : ∀ g cap w', OwnS w' B (.slice (some ⟨g, 0, none⟩) (l.length + 1) cap) (l ++ [c]) → (∀ w0, Below B w0 w → Below B w0 w') → K (a.put o.dst (.slice (some ⟨g, 0, none⟩) (l.length + 1) cap)) w') :
    if Region.wanted o (yielded ops a.tmps) = true then Oper.wp Tryz.prog o a (w.alloc (.cells #[.string c] 9)) K Q else E := by
  obtain ⟨i, hi, hz0, hz1, hz2⟩ := info_parts infoStr
  refine step_append_lies _ hgd s x 44 ho B 9 i (.string ⟨#[]⟩) 1 16 Tryz.underlying44 hi hz0 hz1 hz2 rfl (by decide) v l.length (l.map Value.string) hs (World.ownsRow.alloc hown _) ⟨w.heap.size, 0, none⟩ 1 1 [.string c] hx rfl (cell_one_new _ _ _) ?_ (by decide) (by unfold maxLen; omega) (by omega) (by simp; omega) _ rfl ?_
  · intro u hu; simp at hu; subst hu; rfl
  · intro g cap w' hown' hgrow _ _
    have hg2 : w.grownBy w' v.ownBlock := ⟨hgrow.os, hgrow.tape, hgrow.output, Nat.le_trans (by simp) hgrow.size, fun k hk hne => (hgrow.block k (by simp; omega) hne).trans (Below.heap_alloc w _ k hk)⟩
    refine h g cap w' ?_ (fun w0 hb => hb.grown hg2 hB (fun k hk => (World.ownsRow.lt hown k hk).1))
    unfold OwnS
    rw [List.length_append, List.map_append]
    exact hown'
end Go.Proofs.YtinmmbnlflmobaaGreatDoor
