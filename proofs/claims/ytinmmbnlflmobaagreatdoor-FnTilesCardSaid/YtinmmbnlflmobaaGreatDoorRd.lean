/- ReadDecimal: the reference's reading digit by digit, the program's strconv.ParseInt: both give the number whose decimal form the text is. Condition: the table of powers of ten and the errors of strconv as the row lists them. -/
import Derived.Test.YtinmmbnlflmobaaGreatDoorDc
import Derived.Test.YtinmmbnlflmobaaGreatDoorW
import Derived.FnData
import Derived.Lib.ParseIntB
namespace Go.Proofs.YtinmmbnlflmobaaGreatDoor
open Go.RowKit

def dgs (l : List UInt8) : Bool := l.all fun c => digI (c.toNat : Int)
def numA (acc : Nat) : List UInt8 → Nat
  | [] => acc
  | c :: r => numA (acc * 10 + (c.toNat - 48)) r
theorem digI_iff {c : UInt8} : digI (c.toNat : Int) = true ↔ 48 ≤ c.toNat ∧ c.toNat ≤ 57 := by
  unfold digI; simp; omega
theorem numA_le : ∀ (l : List UInt8) (acc : Nat), acc ≤ numA acc l
  | [], acc => Nat.le_refl _
  | c :: r, acc => Nat.le_trans (by omega) (numA_le r (acc * 10 + (c.toNat - 48)))
theorem numA_append (l : List UInt8) : ∀ (acc : Nat) (c : UInt8), numA acc (l ++ [c]) = numA acc l * 10 + (c.toNat - 48) := by
  induction l with
  | nil => intro acc c; rfl
  | cons x r ih => intro acc c; exact ih _ c
theorem numA_lt : ∀ (l : List UInt8) (acc : Nat), dgs l = true → numA acc l < (acc + 1) * 10 ^ l.length
  | [], acc, _ => by show acc < (acc + 1) * 10 ^ 0; omega
  | c :: r, acc, h => by
    have h1 : digI (c.toNat : Int) = true ∧ dgs r = true := by simpa [dgs] using h
    have h2 := digI_iff.1 h1.1
    have ih := numA_lt r (acc * 10 + (c.toNat - 48)) h1.2
    show numA (acc * 10 + (c.toNat - 48)) r < _
    rw [List.length_cons, Nat.pow_succ, Nat.mul_comm (10 ^ r.length), ← Nat.mul_assoc]
    exact Nat.lt_of_lt_of_le ih (Nat.mul_le_mul_right _ (by omega))
theorem numA_bound {l : List UInt8} (h : dgs l = true) (hl : l.length ≤ 18) : numA 0 l < 1000000000000000000 := by
  have h1 := numA_lt l 0 h
  have h2 : 10 ^ l.length ≤ 10 ^ 18 := Nat.pow_le_pow_right (by decide) hl
  have : (10 : Nat) ^ 18 = 1000000000000000000 := by decide
  omega
theorem parse_dgs (M : Nat) (hM : M < 18446744073709551616) : ∀ (l : List UInt8) (acc : Nat), dgs l = true → numA acc l ≤ M → Lib.parseUintM M acc l = .ok (numA acc l)
  | [], acc, _, _ => rfl
  | c :: r, acc, h, hn => by
    have h1 : digI (c.toNat : Int) = true ∧ dgs r = true := by simpa [dgs] using h
    have h2 := digI_iff.1 h1.1
    have h3 := numA_le r (acc * 10 + (c.toNat - 48))
    have hn' : numA (acc * 10 + (c.toNat - 48)) r ≤ M := hn
    unfold Lib.parseUintM
    rw [if_pos h2, if_neg (by omega), if_neg (by omega)]
    exact parse_dgs M hM r _ h1.2 hn
theorem ofNat_dig {d : Nat} (h : d < 10) : (UInt8.ofNat (48 + d)).toNat = 48 + d := by
  have hall : ∀ d : Fin 10, (UInt8.ofNat (48 + d.val)).toNat = 48 + d.val := by decide +kernel
  exact hall ⟨d, h⟩
theorem dgs_append (a b : List UInt8) : dgs (a ++ b) = (dgs a && dgs b) := by simp [dgs]
theorem dec_dgs (m : Nat) : dgs (Lib.decDigits m) = true := by
  induction m using Nat.strongRecOn with
  | _ m ih =>
    rw [Lib.decDigits]
    by_cases h : m < 10
    · rw [dif_pos h]; simp only [dgs, List.all_cons, List.all_nil, Bool.and_true]; rw [digI_iff, ofNat_dig h]; omega
    · rw [dif_neg h, dgs_append, ih _ (by omega)]
      simp only [dgs, List.all_cons, List.all_nil, Bool.and_true, Bool.true_and]; rw [digI_iff, ofNat_dig (Nat.mod_lt _ (by decide))]; omega
theorem dec_num (m : Nat) : numA 0 (Lib.decDigits m) = m := by
  induction m using Nat.strongRecOn with
  | _ m ih =>
    rw [Lib.decDigits]
    by_cases h : m < 10
    · rw [dif_pos h]; show 0 * 10 + ((UInt8.ofNat (48 + m)).toNat - 48) = m; rw [ofNat_dig h]; omega
    · rw [dif_neg h, numA_append, ih _ (by omega), ofNat_dig (Nat.mod_lt _ (by decide))]; omega
/-- A text without its '-'. -/
def trD (l : List UInt8) : List UInt8 := Lib.trimPrefix l [45]
theorem trD_neg (r : List UInt8) : trD (45 :: r) = r := by simp [trD, Lib.trimPrefix, Lib.hasPrefix]
theorem trD_pos {l : List UInt8} (h : l.head? ≠ some 45) : trD l = l := by
  unfold trD Lib.trimPrefix
  rw [if_neg]
  cases l with
  | nil => simp [Lib.hasPrefix]
  | cons c r => simp at h; simp [Lib.hasPrefix, List.isPrefixOf]; exact fun e => h e.symm
theorem trD_itoa_dgs (n : Int) : dgs (trD (Lib.itoa n)) = true := by
  unfold Lib.itoa
  by_cases h : n < 0
  · rw [if_pos h, trD_neg]; exact dec_dgs _
  · rw [if_neg h, trD_pos]
    · exact dec_dgs _
    · intro e
      have hd := dec_dgs n.toNat
      cases hl : Lib.decDigits n.toNat with
      | nil => rw [hl] at e; simp at e
      | cons c r =>
        rw [hl] at e hd
        simp at e
        subst e
        simp [dgs, digI] at hd
/-- The number that a text spells, if its digits do. -/
def valD (l : List UInt8) : Int := if l.head? = some 45 then -(numA 0 (trD l) : Int) else (numA 0 (trD l) : Int)
/-- The number whose decimal form of at most 18 digits the text is. -/
def readD (l : List UInt8) : Option Int :=
  if (trD l).length < 1 ∨ 18 < (trD l).length then none
  else if dgs (trD l) = false then none
  else if Lib.itoa (valD l) = l then some (valD l) else none
def rdN (s : ByteArray) : Int := (readD s.data.toList).getD 0
def rdB (s : ByteArray) : Bool := (readD s.data.toList).isSome
theorem readD_len {l : List UInt8} (h : (trD l).length < 1 ∨ 18 < (trD l).length) : readD l = none := if_pos h
theorem readD_dgs {l : List UInt8} (h : dgs (trD l) = false) : readD l = none := by unfold readD; rw [if_pos h]; split <;> rfl
theorem readD_ok {l : List UInt8} (h : ¬ ((trD l).length < 1 ∨ 18 < (trD l).length)) (h2 : dgs (trD l) = true) (h3 : Lib.itoa (valD l) = l) : readD l = some (valD l) := by
  unfold readD; rw [if_neg h, if_neg (by simp [h2]), if_pos h3]
theorem readD_no {l : List UInt8} (h3 : Lib.itoa (valD l) ≠ l) : readD l = none := by
  unfold readD; rw [if_neg h3]; split <;> (try split) <;> rfl
theorem valD_lt {l : List UInt8} (h : ¬ ((trD l).length < 1 ∨ 18 < (trD l).length)) (h2 : dgs (trD l) = true) : -1000000000000000000 < valD l ∧ valD l < 1000000000000000000 := by
  have hb := numA_bound h2 (by omega)
  unfold valD; split <;> omega
/-- What strconv.ParseInt makes of a text of digits. -/
theorem parseInt_dgs {l : List UInt8} (h : ¬ ((trD l).length < 1 ∨ 18 < (trD l).length)) (h2 : dgs (trD l) = true) : Lib.parseIntB 64 l = .ok (valD l) := by
  have hb := numA_bound h2 (by omega)
  cases l with
  | nil => simp [trD, Lib.trimPrefix, Lib.hasPrefix] at h
  | cons c r =>
    by_cases hc : c = 45
    · subst hc
      rw [trD_neg] at h h2 hb
      have hU : Lib.parseUintB 64 r = .ok (numA 0 r) := by unfold Lib.parseUintB; rw [if_neg (by intro e; subst e; simp at h), parse_dgs _ (by decide) r 0 h2 (by omega)]
      have hI : (if (45 : UInt8).toNat = 43 ∨ (45 : UInt8).toNat = 45 then r else 45 :: r) = r := if_pos (Or.inr rfl)
      have hb1 : ¬ (2 ^ (64 - 1) < numA 0 r) := by omega
      simp only [Lib.parseIntB]
      rw [hI, hU]
      simp only [show (45 : UInt8).toNat = 45 from rfl, not_true_eq_false, false_and, if_false, true_and, if_neg hb1, if_true]
      simp [valD, trD_neg]
    · have hh : (c :: r).head? ≠ some 45 := by simpa using hc
      rw [trD_pos hh] at h h2 hb
      have hd : 48 ≤ c.toNat ∧ c.toNat ≤ 57 := digI_iff.1 (by have : digI (c.toNat : Int) = true ∧ dgs r = true := by simpa [dgs] using h2
                                                              exact this.1)
      have hU : Lib.parseUintB 64 (c :: r) = .ok (numA 0 (c :: r)) := by unfold Lib.parseUintB; rw [if_neg (by simp), parse_dgs _ (by decide) (c :: r) 0 h2 (by omega)]
      have hI : (if c.toNat = 43 ∨ c.toNat = 45 then r else c :: r) = c :: r := if_neg (by omega)
      have hn : ¬ c.toNat = 45 := by omega
      have hb1 : ¬ (2 ^ (64 - 1) ≤ numA 0 (c :: r)) := by omega
      simp only [Lib.parseIntB]
      rw [hI, hU]
      simp only [hn, not_false_eq_true, true_and, if_neg hb1, false_and, if_false]
      unfold valD; rw [if_neg hh, trD_pos hh]
/-- The program's test: what ParseInt gives, of this decimal form, not too long. -/
theorem impl_ok {l : List UInt8} {v : Int} (h : Lib.parseIntB 64 l = .ok v) (h1 : (trD l).length ≤ 18) (h2 : Lib.itoa v = l) : readD l = some v := by
  have hd : dgs (trD l) = true := by rw [← h2]; exact trD_itoa_dgs v
  have h0 : ¬ ((trD l).length < 1 ∨ 18 < (trD l).length) := by
    intro e
    have h0 : (trD l).length = 0 := by omega
    cases l with
    | nil => cases h
    | cons c r =>
      by_cases hc : c = 45
      · subst hc
        rw [trD_neg] at h0
        have := List.eq_nil_of_length_eq_zero h0
        subst this
        cases h
      · rw [trD_pos (by simpa using hc)] at h0; simp at h0
  have hv : v = valD l := by have := (parseInt_dgs h0 hd).symm.trans h; injection this with e; exact e.symm
  rw [readD_ok h0 hd (hv ▸ h2), hv]
theorem impl_no {l : List UInt8} {v : Int} (h : Lib.parseIntB 64 l = .ok v) (h2 : Lib.itoa v ≠ l) : readD l = none := by
  by_cases h0 : (trD l).length < 1 ∨ 18 < (trD l).length
  · exact readD_len h0
  · by_cases hd : dgs (trD l) = true
    · have hv : v = valD l := by have := (parseInt_dgs h0 hd).symm.trans h; injection this with e; exact e.symm
      exact readD_no (hv ▸ h2)
    · exact readD_dgs (by simpa using hd)
theorem impl_bad {l : List UInt8} (h : ∀ v, Lib.parseIntB 64 l ≠ .ok v) : readD l = none := by
  by_cases h0 : (trD l).length < 1 ∨ 18 < (trD l).length
  · exact readD_len h0
  · by_cases hd : dgs (trD l) = true
    · exact absurd (parseInt_dgs h0 hd) (h _)
    · exact readD_dgs (by simpa using hd)
theorem impl_long {l : List UInt8} (h : 18 < (trD l).length) : readD l = none := readD_len (.inr h)

/-- strconv's two errors stand in their variables. -/
def ErrV (w : World) : Prop := (∃ u v, w.cell? ⟨4, 0, none⟩ = some (.iface u v)) ∧ (∃ u v, w.cell? ⟨5, 0, none⟩ = some (.iface u v))
theorem ErrV.below {w w' : World} (h : ErrV w) (hb : Below w.heap.size w w') : ErrV w' := by
  obtain ⟨⟨u, v, h1⟩, ⟨u2, v2, h2⟩⟩ := h
  exact ⟨⟨u, v, (hb.cell (World.block_lt_of_cell? _ _ h1)).trans h1⟩, ⟨u2, v2, (hb.cell (World.block_lt_of_cell? _ _ h2)).trans h2⟩⟩
theorem iface_var {P : Program} {w : World} {n nm : String} {d : DataW Unit} {g : Nat} {t : TypeId} {ms : Array (String × TypeId)} (hg : P.globalNamed n = some g) (ht : (P.globals[g]?).map (·.type) = some t) (hu : P.underlying t = some (.interface ms))
    (h : Lib.VarReads P w n (.iface nm d)) : ∃ u v, w.cell? ⟨g, 0, none⟩ = some (.iface u v) := by
  obtain ⟨g', t', cs, fuel, p, hg', ht', hv, hd⟩ := h
  obtain rfl := Option.some.inj (hg.symm.trans hg')
  obtain rfl := Option.some.inj (ht.symm.trans ht')
  have hc := World.var?_cell hg hv 0
  cases fuel with
  | zero => simp [DataW.trod] at hd
  | succ fuel =>
    obtain ⟨l⟩ := cs
    simp only [DataW.trod, hu] at hd
    rcases l with _ | ⟨x, _ | ⟨y, r⟩⟩
    · simp at hd
    · cases x <;> simp at hd
      exact ⟨_, _, by simpa using hc⟩
    · cases x <;> simp at hd
theorem ErrV.laid {w : World} {l : List (String × DataW Unit)} (h : laidMetH Tryz.prog l w) (hm : ("strconv.ErrSyntax", Rows.laid_strconv_ErrSyntax) ∈ l) (hm2 : ("strconv.ErrRange", Rows.laid_strconv_ErrRange) ∈ l) : ErrV w :=
  ⟨iface_var (g := 4) (t := 69) (by kernel_rfl) (by kernel_rfl) Tryz.underlying69 (readsH h hm rfl), iface_var (g := 5) (t := 69) (by kernel_rfl) (by kernel_rfl) Tryz.underlying69 (readsH h hm2 rfl)⟩

/-- What a text's number is: the number and whether there is one. -/
theorem rd_some {s : ByteArray} {v : Int} (h : readD s.data.toList = some v) : rdN s = v ∧ rdB s = true := by unfold rdN rdB; rw [h]; exact ⟨rfl, rfl⟩
theorem rd_none {s : ByteArray} (h : readD s.data.toList = none) : rdN s = 0 ∧ rdB s = false := by unfold rdN rdB; rw [h]; exact ⟨rfl, rfl⟩
theorem parse_range {l : List UInt8} {v : Int} (h : Lib.parseIntB 64 l = .ok v) : -9223372036854775808 ≤ v ∧ v ≤ 9223372036854775807 := by
  cases l with
  | nil => cases h
  | cons c r =>
    unfold Lib.parseIntB at h
    simp only at h
    split at h
    · cases h
    · cases h
    · split at h
      · cases h
      · split at h
        · cases h
        · injection h with h
          rename_i h1 h2
          subst h
          split <;> omega
set_option maxHeartbeats 2000000 in
theorem anyDecimal_any (s : ByteArray) (w : World) (hs : s.size ≤ 1048576) (ht : TabP w) (he : ErrV w) (hl : (trD s.data.toList).length ≤ 18) :
    Calls Tryz.prog 42 #[.string s] w fun e w' => e = .returned (.tuple #[.int .i64 (rdN s), .bool (rdB s)]) ∧ Below w.heap.size w w' := by
  cases hp : Lib.parseIntB 64 s.data.toList
  · rename_i v
    have hr := parse_range hp
    go_enter Tryz.func42, Tryz.ntmps42
    go_wp2_with fail
    refine (Tryz.strconv_ParseInt_10_at64_ok s (by omega) v hp _).mono ?_
    rintro e w1 ⟨rfl, hb1⟩
    have HB1 := Lib.hid (show Below w.heap.size w w1 by rcases hb1 with rfl | ⟨t, rfl⟩; exact Below.refl _ _; exact Lib.bytesWorld_below w 5 t)
    have HT := Lib.hid (ht.below HB1.out)
    clear hb1
    by_cases hE : Lib.itoa v = s.data.toList
    · obtain ⟨e1, e2⟩ := rd_some (impl_ok hp hl hE)
      go_wp2_with fail
      refine (implDecimal_any v _ hr.1 hr.2 HT.out).mono ?_
      rintro e w2 ⟨rfl, hb2⟩
      have HB2 := Lib.hid (HB1.out.trans (hb2.mono HB1.out.size))
      clear hb2
      go_wp2
      go_ret2
      try rw [e1, e2]
      exact ⟨rfl, HB2.out⟩
    · obtain ⟨e1, e2⟩ := rd_none (impl_no hp hE)
      have hq2 : (Lib.itoa v == s.toList) = false := by rw [Lib.toList_data]; simpa using hE
      go_wp2_with fail
      refine (implDecimal_any v _ hr.1 hr.2 HT.out).mono ?_
      rintro e w2 ⟨rfl, hb2⟩
      have HB2 := Lib.hid (HB1.out.trans (hb2.mono HB1.out.size))
      clear hb2
      go_wp2
      go_ret2
      try rw [e1, e2]
      exact ⟨rfl, HB2.out⟩
  · have hbad : readD s.data.toList = none := impl_bad (fun v e => by rw [hp] at e; cases e)
    obtain ⟨e1, e2⟩ := rd_none hbad
    obtain ⟨te, pe, hev⟩ := he.1
    go_enter Tryz.func42, Tryz.ntmps42
    go_wp2_with fail
    refine (Tryz.strconv_ParseInt_10_at64_syntax s (by omega) hp _ _ hev (.inr ⟨te, pe, rfl⟩)).mono ?_
    rintro e w1 ⟨N, rfl, -, -, hb1⟩
    go_wp2
    go_ret2
    try rw [e1, e2]
    exact ⟨rfl, hb1⟩
  · have hbad : readD s.data.toList = none := impl_bad (fun v e => by rw [hp] at e; cases e)
    obtain ⟨e1, e2⟩ := rd_none hbad
    obtain ⟨te, pe, hev⟩ := he.2
    go_enter Tryz.func42, Tryz.ntmps42
    go_wp2_with fail
    refine (Tryz.strconv_ParseInt_10_at64_range s (by omega) hp _ _ hev (.inr ⟨te, pe, rfl⟩)).mono ?_
    rintro e w1 ⟨N, rfl, -, -, hb1⟩
    go_wp2
    go_ret2
    try rw [e1, e2]
    exact ⟨rfl, hb1⟩

theorem trim_is (s : ByteArray) : Lib.trimPrefix s.data.toList (⟨#[45]⟩ : ByteArray).data.toList = trD s.data.toList := rfl
set_option maxHeartbeats 2000000 in
theorem implReadDecimal_any (s : ByteArray) (w : World) (hs : s.size ≤ 1048576) (ht : TabP w) (he : ErrV w) :
    Calls Tryz.prog 22 #[.string s] w fun e w' => e = .returned (.tuple #[.int .i64 (rdN s), .bool (rdB s)]) ∧ Below w.heap.size w w' := by
  go_enter Tryz.func22, Tryz.ntmps22
  go_wp2_with fail
  refine (Tryz.strings_TrimPrefix s ⟨#[45]⟩ _).mono ?_
  rw [trim_is]
  rintro e w1 ⟨rfl, rfl⟩
  have hlen : (⟨(trD s.data.toList).toArray⟩ : ByteArray).size = (trD s.data.toList).length := rfl
  by_cases hl : (trD s.data.toList).length ≤ 18
  · go_wp2_with fail
    refine (anyDecimal_any s _ hs ht he hl).mono ?_
    rintro e w2 ⟨rfl, hb2⟩
    go_wp2
    go_ret2
    exact ⟨rfl, hb2⟩
  · obtain ⟨e1, e2⟩ := rd_none (impl_long (l := s.data.toList) (by omega))
    go_wp2
    go_ret2
    try rw [e1, e2]
    exact ⟨rfl, Below.refl _ _⟩

theorem size_data (s : ByteArray) : s.size = s.data.toList.length := by cases s; rfl
theorem dgs_take {l : List UInt8} {k : Nat} (h : k < l.length) : dgs (l.take (k + 1)) = (dgs (l.take k) && digI (l[k].toNat : Int)) := by
  rw [List.take_succ_eq_append_getElem h, dgs_append]; simp [dgs]
theorem dgs_no {l : List UInt8} {k : Nat} (h : k < l.length) (hd : digI (l[k].toNat : Int) = false) : dgs l = false := by
  unfold dgs; rw [List.all_eq_false]; exact ⟨l[k], List.getElem_mem h, by simp [hd]⟩
theorem numA_take {l : List UInt8} {k : Nat} (h : k < l.length) : numA 0 (l.take (k + 1)) = numA 0 (l.take k) * 10 + (l[k].toNat - 48) := by
  rw [List.take_succ_eq_append_getElem h, numA_append]
theorem numA_le18 {l : List UInt8} {k : Nat} (h : dgs (l.take k) = true) (hk : k ≤ 18) : numA 0 (l.take k) < 1000000000000000000 :=
  numA_bound h (by simp; omega)
set_option maxHeartbeats 8000000 in
set_option maxRecDepth 20000 in
theorem l01Number_any (s : ByteArray) (w : World) (hs : s.size ≤ 1048576) :
    Calls Tryz.prog 88 #[.string s] w fun e w' => e = .returned (.tuple #[.int .i64 (rdN s), .bool (rdB s)]) ∧ Below w.heap.size w w' := by
  by_cases he : s.size = 0
  · have hsn : s.data.toList = [] := List.eq_nil_of_length_eq_zero (by rw [← size_data]; exact he)
    obtain ⟨e1, e2⟩ := rd_none (readD_len (l := s.data.toList) (.inl (by rw [hsn]; decide)))
    have hem : s.toList.isEmpty = true := by rw [Lib.toList_data, hsn]; rfl
    go_enter Tryz.func88, Tryz.ntmps88
    go_wp2
    go_ret2
    try rw [e1, e2]
    exact ⟨rfl, Below.refl _ _⟩
  · have hs0 : 0 < s.size := by omega
    have hnn : s.data.toList ≠ [] := by intro e; apply he; rw [size_data, e]; rfl
    have hne : s.toList.isEmpty = false := by rw [Lib.toList_data]; simpa using hnn
    have hcons : s.data.toList = s[0] :: s.data.toList.drop 1 := by
      have h1 : 0 < s.data.toList.length := by rw [← size_data]; exact hs0
      have := List.drop_eq_getElem_cons h1
      rw [List.drop_zero] at this
      exact this
    by_cases hm : s[0] = 45
    · have hmn : (s[0].toNat : Int) = 45 := by rw [hm]; rfl
      obtain ⟨t, ht⟩ : ∃ t : ByteArray, t = s.extract 1 s.size := ⟨_, rfl⟩
      have htz : t.size = s.size - 1 := by rw [ht]; simp
      have htl : s.data.toList = 45 :: t.data.toList := by rw [ht, ByteArray.data_extract, Array.toList_extract, List.extract_eq_take_drop, List.take_of_length_le (by rw [List.length_drop, ← size_data]; omega)]; rw [← hm]; exact hcons
      have Htr := Lib.hid (show trD s.data.toList = t.data.toList by rw [htl, trD_neg])
      have Hv := Lib.hid (show valD s.data.toList = -(numA 0 t.data.toList : Int) by unfold valD; rw [Htr.out, htl]; simp)
      clear htl hcons hnn
      have Hz := Lib.hid (show (trD s.data.toList).length = t.size by rw [Htr.out, size_data])
      by_cases hl : t.size < 1 ∨ 18 < t.size
      · obtain ⟨e1, e2⟩ := rd_none (readD_len (l := s.data.toList) (by rw [Hz.out]; exact hl))
        rcases hl with hl | hl
        all_goals
          go_enter Tryz.func88, Tryz.ntmps88
          go_wp2
          go_ret2
          try rw [e1, e2]
          exact ⟨rfl, Below.refl _ _⟩
      · have Hl := Lib.hid (show ¬ ((trD s.data.toList).length < 1 ∨ 18 < (trD s.data.toList).length) by rw [Hz.out]; exact hl)
        have hl1 : 1 ≤ t.size := by omega
        have hl2 : t.size ≤ 18 := by omega
        go_enter Tryz.func88, Tryz.ntmps88
        go_wp2
        rw [← ht]
        have hts : t.size < s.size := by omega
        clear ht htz
        go_loopw [5, 6] (fun n i wr => ∃ k : Nat, k ≤ t.size ∧ i = .int .i64 (k : Int) ∧ n = .int .i64 (numA 0 (t.data.toList.take k) : Int) ∧ Hid (dgs (t.data.toList.take k) = true) ∧ wr = w) (fun _ i _ => t.size - (intOf i).toNat)
        case atStart => exact ⟨0, by omega, rfl, rfl, Lib.hid rfl, rfl⟩
        case round =>
          obtain ⟨k, hk, rfl, rfl, hd, rfl⟩ := hrel
          by_cases hlt : k < t.size
          · have hll : k < t.data.toList.length := by rw [← size_data]; exact hlt
            have hgl : t.data.toList[k] = t[k] := rfl
            by_cases hc : digI (t[k].toNat : Int) = true
            · have hc2 := digI_iff.1 hc
              have hd2 : dgs (t.data.toList.take (k + 1)) = true := by rw [dgs_take hll, hd.out, hgl, hc]; rfl
              have hst := numA_take hll
              rw [hgl] at hst
              have hb := numA_le18 hd2 (by omega)
              go_wp2_with (go_at_call 103; refine (l01Digit_any _ _).mono ?_; rintro e w' ⟨rfl, rfl⟩)
              go_roundw
              case rel => exact ⟨k + 1, by omega, by go_num, congrArg (Value.int .i64) (by omega), Lib.hid hd2, trivial⟩
              case measure => simp [intOf]; omega
            · have hc2 : digI (t[k].toNat : Int) = false := by simpa using hc
              obtain ⟨e1, e2⟩ := rd_none (readD_dgs (l := s.data.toList) (by rw [Htr.out]; exact dgs_no hll hc2))
              go_wp2_with (go_at_call 103; refine (l01Digit_any _ _).mono ?_; rintro e w' ⟨rfl, rfl⟩)
              go_ret2
              try rw [e1, e2]
              exact ⟨rfl, Below.refl _ _⟩
          · obtain rfl : k = t.size := by omega
            rw [show t.data.toList.take t.size = t.data.toList by rw [size_data]; exact List.take_length] at hd
            have hb := numA_bound hd.out (by rw [← size_data]; omega)
            have hv := valD_lt Hl.out (by rw [Htr.out]; exact hd.out)
            rw [Hv.out] at hv
            have Hd := Lib.hid (show dgs (trD s.data.toList) = true by rw [Htr.out]; exact hd.out)
            have hnt : numA 0 (t.data.toList.take t.size) = numA 0 t.data.toList := by rw [size_data, List.take_length]
            rw [hnt]
            by_cases hE : Lib.itoa (valD s.data.toList) = s.data.toList
            · obtain ⟨e1, e2⟩ := rd_some (readD_ok Hl.out Hd.out hE)
              rw [Hv.out] at hE e1
              go_wp2_with fail
              refine (l01Dec_any _ _ (by omega) (by omega)).mono ?_
              rintro e w1 ⟨rfl, hb1⟩
              go_wp2
              go_ret2
              try rw [e1, e2]
              exact ⟨rfl, hb1⟩
            · obtain ⟨e1, e2⟩ := rd_none (readD_no hE)
              have hq2 : (Lib.itoa (valD s.data.toList) == s.toList) = false := by rw [Lib.toList_data]; simpa using hE
              rw [Hv.out] at hE hq2
              go_wp2_with fail
              refine (l01Dec_any _ _ (by omega) (by omega)).mono ?_
              rintro e w1 ⟨rfl, hb1⟩
              go_wp2
              go_ret2
              try rw [e1, e2]
              exact ⟨rfl, hb1⟩
    · have hmn : ¬ (s[0].toNat : Int) = 45 := by intro e; apply hm; apply UInt8.toNat_inj.1; show s[0].toNat = 45; omega
      have hh : s.data.toList.head? ≠ some 45 := by rw [hcons]; simpa using hm
      have Htr := Lib.hid (trD_pos hh)
      have Hv := Lib.hid (show valD s.data.toList = (numA 0 s.data.toList : Int) by unfold valD; rw [if_neg hh, Htr.out])
      clear hh hcons hnn
      have Hz := Lib.hid (show (trD s.data.toList).length = s.size by rw [Htr.out, size_data])
      by_cases hl : s.size < 1 ∨ 18 < s.size
      · obtain ⟨e1, e2⟩ := rd_none (readD_len (l := s.data.toList) (by rw [Hz.out]; exact hl))
        replace hl : 18 < s.size := by omega
        all_goals
          go_enter Tryz.func88, Tryz.ntmps88
          go_wp2
          go_ret2
          try rw [e1, e2]
          exact ⟨rfl, Below.refl _ _⟩
      · have Hl := Lib.hid (show ¬ ((trD s.data.toList).length < 1 ∨ 18 < (trD s.data.toList).length) by rw [Hz.out]; exact hl)
        have hl1 : 1 ≤ s.size := by omega
        have hl2 : s.size ≤ 18 := by omega
        go_enter Tryz.func88, Tryz.ntmps88
        go_wp2
        go_loopw [5, 6] (fun n i wr => ∃ k : Nat, k ≤ s.size ∧ i = .int .i64 (k : Int) ∧ n = .int .i64 (numA 0 (s.data.toList.take k) : Int) ∧ Hid (dgs (s.data.toList.take k) = true) ∧ wr = w) (fun _ i _ => s.size - (intOf i).toNat)
        case atStart => exact ⟨0, by omega, rfl, rfl, Lib.hid rfl, rfl⟩
        case round =>
          obtain ⟨k, hk, rfl, rfl, hd, rfl⟩ := hrel
          by_cases hlt : k < s.size
          · have hll : k < s.data.toList.length := by rw [← size_data]; exact hlt
            have hgl : s.data.toList[k] = s[k] := rfl
            by_cases hc : digI (s[k].toNat : Int) = true
            · have hc2 := digI_iff.1 hc
              have hd2 : dgs (s.data.toList.take (k + 1)) = true := by rw [dgs_take hll, hd.out, hgl, hc]; rfl
              have hst := numA_take hll
              rw [hgl] at hst
              have hb := numA_le18 hd2 (by omega)
              go_wp2_with (go_at_call 103; refine (l01Digit_any _ _).mono ?_; rintro e w' ⟨rfl, rfl⟩)
              go_roundw
              case rel => exact ⟨k + 1, by omega, by go_num, congrArg (Value.int .i64) (by omega), Lib.hid hd2, trivial⟩
              case measure => simp [intOf]; omega
            · have hc2 : digI (s[k].toNat : Int) = false := by simpa using hc
              obtain ⟨e1, e2⟩ := rd_none (readD_dgs (l := s.data.toList) (by rw [Htr.out]; exact dgs_no hll hc2))
              go_wp2_with (go_at_call 103; refine (l01Digit_any _ _).mono ?_; rintro e w' ⟨rfl, rfl⟩)
              go_ret2
              try rw [e1, e2]
              exact ⟨rfl, Below.refl _ _⟩
          · obtain rfl : k = s.size := by omega
            rw [show s.data.toList.take s.size = s.data.toList by rw [size_data]; exact List.take_length] at hd
            have hb := numA_bound hd.out (by rw [← size_data]; omega)
            have hv := valD_lt Hl.out (by rw [Htr.out]; exact hd.out)
            rw [Hv.out] at hv
            have Hd := Lib.hid (show dgs (trD s.data.toList) = true by rw [Htr.out]; exact hd.out)
            have hnt : numA 0 (s.data.toList.take s.size) = numA 0 s.data.toList := by rw [size_data, List.take_length]
            rw [hnt]
            by_cases hE : Lib.itoa (valD s.data.toList) = s.data.toList
            · obtain ⟨e1, e2⟩ := rd_some (readD_ok Hl.out Hd.out hE)
              rw [Hv.out] at hE e1
              go_wp2_with fail
              refine (l01Dec_any _ _ (by omega) (by omega)).mono ?_
              rintro e w1 ⟨rfl, hb1⟩
              go_wp2
              go_ret2
              try rw [e1, e2]
              exact ⟨rfl, hb1⟩
            · obtain ⟨e1, e2⟩ := rd_none (readD_no hE)
              have hq2 : (Lib.itoa (valD s.data.toList) == s.toList) = false := by rw [Lib.toList_data]; simpa using hE
              rw [Hv.out] at hE hq2
              go_wp2_with fail
              refine (l01Dec_any _ _ (by omega) (by omega)).mono ?_
              rintro e w1 ⟨rfl, hb1⟩
              go_wp2
              go_ret2
              try rw [e1, e2]
              exact ⟨rfl, hb1⟩
end Go.Proofs.YtinmmbnlflmobaaGreatDoor
