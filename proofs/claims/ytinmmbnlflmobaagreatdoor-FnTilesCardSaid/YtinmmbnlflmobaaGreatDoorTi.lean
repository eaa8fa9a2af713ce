/- TilesText of the program: its words, joined. Condition: the table of powers of ten as the row lists it. -/
import Derived.Test.YtinmmbnlflmobaaGreatDoorTt
import Derived.Test.YtinmmbnlflmobaaGreatDoorAt
namespace Go.Proofs.YtinmmbnlflmobaaGreatDoor
open Go.RowKit
/-- strings.Join of a slice of the call's own. -/
theorem join_own {w : World} {B g n cap : Nat} {l : List ByteArray} (hown : OwnS w B (.slice (some ⟨g, 0, none⟩) n cap) l) (hl : (Lib.join (l.map (·.data.toList)) [32]).length ≤ 140737488355328) (hn : l.length ≤ 1000000) :
    Calls Tryz.prog 24 #[.slice (some ⟨g, 0, none⟩) n cap, .string ⟨#[32]⟩] w fun e w' => e = .returned (.string ⟨(Lib.join (l.map (·.data.toList)) [32]).toArray⟩) ∧ Below w.heap.size w w' := by
  have hlt : g < w.heap.size := (World.ownsRow.lt hown g rfl).2
  obtain ⟨a', c', e, hc, -⟩ := hown.shape
  injection e with e1 e2 e3
  subst e2
  subst e3
  refine Tryz.strings_Join g 0 cap l ⟨#[32]⟩ w (fun j u hj => ?_) hlt (by omega) hc hl
  have h1 := World.ownsRow.cells hown (g := g) rfl j (.string u) (by rw [List.getElem?_map, hj]; rfl)
  have h2 : (⟨g, 0, none⟩ : Addr).add j = ⟨g, 0 + j, none⟩ := by unfold Addr.add; split <;> simp_all
  rw [h2] at h1
  exact h1
theorem own_some {w : World} {B : Nat} {a : Option Addr} {n cap : Nat} {l : List ByteArray} (hown : OwnS w B (.slice a n cap) l) (h : 1 ≤ l.length) : ∃ g, a = some ⟨g, 0, none⟩ := by
  rcases hown.2 with ⟨_, h0⟩ | ⟨g, cap', cur, hv, _⟩
  · omega
  · injection hv with h1; exact ⟨g, h1⟩
theorem join_blank (x : TileD) (s : ByteArray) (h : 1 ≤ x.letters.size) : Lib.join ((wordsTo x x.letters.size ++ [s]).map (·.data.toList)) [32] = textTo x x.letters.size ++ 32 :: s.data.toList := by
  rw [List.map_append, List.map_cons, List.map_nil, join_snoc (by intro e; have := congrArg List.length e; rw [List.length_map, wordsTo_len] at this; exact absurd this (by show ¬ (x.letters.size = 0); omega)), join_words]; rfl
section
attribute [local irreducible] Calls
set_option maxHeartbeats 4000000 in
set_option maxRecDepth 20000 in
theorem implTilesText_any (v : Value) (x : TileD) (w : World) (hv : TilR w v x) (hT : TabP w) :
    Calls Tryz.prog 9 #[v] w fun e w' => e = .returned (.string (textV x)) ∧ Below w.heap.size w w' := by
  obtain ⟨a, c, b, d, rfl⟩ := hv.shape
  have hb0 : Below w.heap.size w (w.alloc (.cells #[.string x.letters, .slice a x.values.length c, .slice b x.counts.length d, .int .i64 x.blanks] 26)) := (Below.refl _ _).alloc (Nat.le_refl _) _
  have HX := Lib.hid (hv.box 26)
  have HV := Lib.hid hv.parts.2.1
  have HN := Lib.hid hv.parts.2.2.1
  obtain ⟨c0, c1, c2, c3, hl, hvv, hnn, hk⟩ := hv.box 26
  have hz0 : (w.alloc (.cells #[.string x.letters, .slice a x.values.length c, .slice b x.counts.length d, .int .i64 x.blanks] 26)).heap.size = w.heap.size + 1 := by simp
  have HTb := Lib.hid hT
  clear hv hl hvv hnn hk hT
  go_enter Tryz.func9, Tryz.ntmps9
  go_wp2_with fail
  refine (implValidTiles_any _ x _ HX.out.read).mono ?_
  rintro e w1 ⟨rfl, hb1⟩
  have HB1 := Lib.hid (hb0.trans (hb1.mono hb0.size))
  have HX1 := Lib.hid (HX.out.below hb1)
  have hz1 : w.heap.size + 1 ≤ w1.heap.size := by have := hb1.size; omega
  clear c0 c1 c2 c3 HX hb0 hb1 hz0
  cases hT : tilB x
  · have HT := Lib.hid hT
    clear hT
    go_wp2
    go_ret
    exact ⟨ret_str (textV_no HT.out).symm, HB1.out⟩
  · have HT := Lib.hid (tilB_P hT)
    have Hv := Lib.hid (textV_yes hT)
    have hl26 := HT.out.n2
    have hl1 := HT.out.n1
    have hb4 := HT.out.b4
    have hbl0 := HT.out.b0
    have hlc := Lib.hid HT.out.lc
    have hlv := Lib.hid HT.out.lv
    obtain ⟨b', d', e1, -, hdm, -⟩ := HN.out.shape
    injection e1 with e1 e2 e3
    subst e1
    subst e3
    obtain ⟨b', d', e1, -, hcm, -⟩ := HV.out.shape
    injection e1 with e1 e4 e3
    subst e1
    subst e3
    unfold maxLen at hdm hcm
    clear hT e2 e4
    have hb2 : Below w1.heap.size w1 (w1.alloc (.cells #[] 9)) := (Below.refl _ _).alloc (Nat.le_refl _) _
    have HX2 := Lib.hid (HX1.out.below hb2)
    have HB2 := Lib.hid hb2
    have Hown := Lib.hid (OwnS.made w1 w1.heap.size (Nat.le_refl _))
    have k2 := HX2.out.c2
    clear hb2
    go_wp2
    go_loopw [3, 13] (fun out i wr => ∃ j : Nat, j ≤ x.counts.length ∧ i = .int .i64 (j : Int) ∧ OwnS wr w1.heap.size out (wordsTo x j) ∧ Hid (TilBox wr w.heap.size x a c b d) ∧ Below w1.heap.size w1 wr) (fun _ i _ => x.counts.length - (intOf i).toNat)
    case atStart => exact ⟨0, by omega, rfl, Hown.out, HX2, HB2.out⟩
    case round =>
      obtain ⟨j, hj, rfl, hown, HXr, hbr⟩ := hrel
      have HB := Lib.hid hbr
      have hbs := hbr.size
      obtain ⟨oa, oc, rfl, -, -⟩ := hown.shape
      have HO := Lib.hid hown
      have k0 := HXr.out.c0
      have k1 := HXr.out.c1
      have k3 := HXr.out.c3
      have HTr := Lib.hid (HTb.out.below (HB1.out.trans (HB.out.mono HB1.out.size)))
      clear hbr HX2 HB2 k2 Hown hown
      by_cases hlt : j < x.counts.length
      · have hltl : j < x.letters.size := by have := hlc.out; omega
        have hltv : j < x.values.length := by have := hlv.out; have := hlc.out; omega
        obtain ⟨b', d', e1, -, -, hcs⟩ := HXr.out.n.shape
        injection e1 with e1 e2 e3
        subst e1
        subst e3
        obtain ⟨b1, o1, rfl, hc1, -⟩ := hcs j hlt
        clear hcs e2
        obtain ⟨b', d', e1, -, -, hcs⟩ := HV.out.shape
        injection e1 with e1 e2 e3
        subst e1
        subst e3
        obtain ⟨b2, o2, rfl, hc20, -⟩ := hcs j hltv
        clear hcs e2
        have hb2lt : b2 < w1.heap.size := by have := cell_lt hc20; have := HB1.out.size; omega
        have hc2 : wr.cell? ⟨b2, o2 + j, none⟩ = some (.int .i64 x.values[j]) := ((HB1.out.trans (HB.out.mono HB1.out.size)).cell (p := ⟨b2, o2 + j, none⟩) (cell_lt hc20)).trans hc20
        have hglt : w.heap.size < w1.heap.size := by omega
        obtain ⟨hco1, hco2⟩ := HT.out.co j hlt
        obtain ⟨hva1, hva2⟩ := HT.out.va j hltv
        have hco0 : 0 ≤ x.counts[j] := by omega
        obtain ⟨l1, hl1e⟩ : ∃ l1, x.letters.extract j (j + 1) = l1 := ⟨_, rfl⟩
        have HL1 := Lib.hid (hl1e ▸ ext_one x.letters j hltl : l1.data.toList = [x.letters[j]])
        have hl1s : l1.size = 1 := ba_len HL1.out
        have Hst := Lib.hid (tileW_at hltl hltv hlt)
        have hltI : (j : Int) < (x.letters.size : Int) := by omega
        have hltI2 : (j : Int) + 1 ≤ (x.letters.size : Int) := by omega
        have hltcI : (j : Int) < (x.counts.length : Int) := by omega
        have hltvI : (j : Int) < (x.values.length : Int) := by omega
        have hon : (wordsTo x j).length ≤ 4398046511104 := by rw [wordsTo_len]; omega
        clear hc20
        go_wp2
        have f1 : (0 : Int) ≤ (j : Int) := by omega
        have f2 : (j : Int) ≤ (x.letters.size : Int) := by omega
        have f3 : (j : Int) ≤ (j : Int) + 1 := by omega
        have f4 : (0 : Int) ≤ (j : Int) + 1 := by omega
        have f5 : ((j : Int) + 1).toNat = j + 1 := by omega
        have f6 : IntKind.i64.wrap ((j : Int) + 1) = (j : Int) + 1 := IntWalk.i64_in _ (by omega)
        go_region_held3 (fun w' => w'.cell? ⟨w.heap.size, 0, none⟩ = some (.string x.letters) ∧ w'.cell? ⟨w.heap.size, 1, none⟩ = some (.slice (some ⟨b2, o2, none⟩) x.values.length c) ∧ w'.cell? ⟨b2, o2 + j, none⟩ = some (.int .i64 x.values[j]))
          (first | exact ⟨k0, k1, hc2⟩ | exact ⟨(hbA.cell (p := ⟨w.heap.size, 0, none⟩) hglt).trans k0, (hbA.cell (p := ⟨w.heap.size, 1, none⟩) hglt).trans k1, (hbA.cell (p := ⟨b2, o2 + j, none⟩) hb2lt).trans hc2⟩ | exact ⟨cell_below (hA2.alloc hA2.size _) k0, cell_below (hA2.alloc hA2.size _) k1, cell_below (hA2.alloc hA2.size _) hc2⟩ | exact ⟨cell_below hA2 k0, cell_below hA2 k1, cell_below hA2 hc2⟩ | exact ⟨cell_below hA1 k0, cell_below hA1 k1, cell_below hA1 hc2⟩)
          (first
            | (go_at_call 23; refine (decimal_s x.values[j] _ hva1 hva2 (HTr.out.below ((Below.refl _ _).drew))).mono ?_; rintro e w2 ⟨r1, rfl, hr1, hr1s, hbk⟩; have HR1 := Lib.hid hr1; have hA1 : Below wr.heap.size wr w2 := ((Below.refl _ _).drew).trans hbk; have hs1 : (9223372036854775807 < 1 + r1.size) = False := big1 hr1s; have hs2 : (9223372036854775807 < 1 + r1.size + 1) = False := big2 hr1s; clear hr1 hbk)
            | (go_at_call 23; refine (decimal_s x.counts[j] _ hco0 hco2 (HTr.out.below hA1)).mono ?_; rintro e w3 ⟨r2, rfl, hr2, hr2s, hbk⟩; have HR2 := Lib.hid hr2; have hA2 : Below wr.heap.size wr w3 := hA1.trans (hbk.mono hA1.size); have HO3 := Lib.hid (HO.out.below hA2); have hB3 : w1.heap.size ≤ w3.heap.size := Nat.le_trans hbs hA2.size; have hs3 : (9223372036854775807 < 1 + r1.size + 1 + r2.size) = False := big3 hr1s hr2s; clear hr2 hbk)
            | (refine step_str (w := w3) ?_ (.tmp 18) (.tmp 36) ?_ w1.heap.size (.slice oa (wordsTo x j).length oc) (wordsTo x j) ?_ HO3.out (l1 ++ r1 ++ ⟨#[120]⟩ ++ r2) ?_ hon hB3 ?_; rfl; rfl; rfl; rfl; intro gg cap w4 hown4 hbel4; have hbA : Below w1.heap.size wr w4 := hbel4 _ (hA2.mono hbs))
            | fail)
        clear f1 f2 f3 f4 f5 f6
        have hstr : l1 ++ r1 ++ (⟨#[120]⟩ : ByteArray) ++ r2 = ⟨(tileW x j).toArray⟩ := ba_of (by simp only [ba_data_app, HR1.out, HR2.out, HL1.out, Hst.out]; simp)
        have HBn := Lib.hid (HB.out.trans hbA)
        have hw4 := HB1.out.trans (HBn.out.mono HB1.out.size)
        have HXn := Lib.hid (HXr.out.part hbA hglt (HV.out.below hw4) (HN.out.below hw4))
        have HOn := Lib.hid (show OwnS w4 w1.heap.size (.slice (some ⟨gg, 0, none⟩) ((wordsTo x j).length + 1) cap) (wordsTo x (j + 1)) by rw [wordsTo_succ, ← hstr]; exact hown4)
        clear hbA hw4 hown4 hbel4 hstr
        go_wp2
        go_roundw
        case rel => exact ⟨j + 1, by omega, by go_num, HOn.out, HXn, HBn.out⟩
        case measure => simp [intOf]; omega
      · obtain rfl : j = x.counts.length := by omega
        have HBx := Lib.hid (HB1.out.trans (HB.out.mono HB1.out.size))
        have hon : (wordsTo x x.counts.length).length ≤ 4398046511104 := by have := hlc.out; rw [wordsTo_len]; omega
        have hle := textTo_le2 HT.out x.letters.size (Nat.le_refl _)
        by_cases hbl : 0 < x.blanks
        · have Ht := Lib.hid (show textL x = textTo x x.letters.size ++ 32 :: 63 :: 120 :: Lib.itoa x.blanks by unfold textL; rw [if_pos hbl])
          go_wp2_with fail
          refine (decimal_s x.blanks _ (by omega) (by omega) HTr.out).mono ?_
          rintro e w2 ⟨r1, rfl, hr1, hr1s, hb2⟩
          have HR1 := Lib.hid hr1
          have HO2 := Lib.hid (HO.out.below hb2)
          have hB2 : w1.heap.size ≤ w2.heap.size := Nat.le_trans hbs hb2.size
          have HBz := Lib.hid (HB.out.trans (hb2.mono hbs))
          have hq : ((⟨#[63, 120]⟩ : ByteArray) ++ r1).data.toList = 63 :: 120 :: Lib.itoa x.blanks := by rw [ba_data_app, hr1]; rfl
          have HQ := Lib.hid hq
          clear hr1 hb2 hq
          go_wp2_with (first
            | (at_builtin; refine app_str rfl _ _ rfl w1.heap.size _ _ rfl HO2.out ((⟨#[63, 120]⟩ : ByteArray) ++ r1) rfl hon hB2 ?_; intro g cap w3 hown3 hbel3 _; have HB3 := Lib.hid (hbel3 _ HBz.out))
            | fail)
          go_wp2_with fail
          refine (join_own hown3 (by have := hlc.out; rw [this, join_blank x _ hl1, List.length_append, List.length_cons, HQ.out]; have := itoa_le (n := x.blanks) hbl0 (by omega); simp; omega) (by have := hlc.out; rw [List.length_append, wordsTo_len]; simp; omega)).mono ?_
          rintro e w4 ⟨rfl, hb4⟩
          have HB4 := Lib.hid (HB1.out.trans ((HB3.out.trans (hb4.mono HB3.out.size)).mono HB1.out.size))
          have hjj := join_blank x ((⟨#[63, 120]⟩ : ByteArray) ++ r1) hl1
          have hlc2 := hlc.out
          rw [HQ.out, ← Ht.out] at hjj
          rw [hlc2, hjj]
          clear hjj hlc2
          go_wp2
          go_ret
          exact ⟨ret_str (by rw [Hv.out]), HB4.out⟩
        · have Ht := Lib.hid (show textL x = textTo x x.letters.size by unfold textL; rw [if_neg hbl, List.append_nil])
          obtain ⟨g, rfl⟩ := own_some HO.out (by have := hlc.out; rw [wordsTo_len]; omega)
          go_wp2_with fail
          refine (join_own HO.out (by rw [join_words, hlc.out]; omega) (by have := hlc.out; rw [wordsTo_len]; omega)).mono ?_
          rintro e w2 ⟨rfl, hb2⟩
          rw [join_words x x.counts.length]
          have HBy := Lib.hid (HBx.out.trans (hb2.mono HBx.out.size))
          go_wp2
          go_ret
          exact ⟨ret_str (by rw [Hv.out, Ht.out, hlc.out]), HBy.out⟩
end
end Go.Proofs.YtinmmbnlflmobaaGreatDoor
