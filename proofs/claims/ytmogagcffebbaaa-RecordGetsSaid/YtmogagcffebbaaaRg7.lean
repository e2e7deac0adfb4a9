/- MsgRPut RecRLabel MsgMany LabelGet Range BytesEq: joined texts, each with its own sentence below. -/
import Derived.Test.YtmogagcffebbaaaRg6
import Derived.Test.YtmogagcffebbaaaRg2
import Derived.Test.YtmogagcffebbaaaRg5
import Derived.BigQuiet
import Derived.Test.YtmogagcffebbaaaRg4
import Derived.Laws.EntriesVeiled
import Derived.Test.YtmogagcffebbaaaRg3
import Derived.RangeFuncFrom
import Derived.RangeFuncLeaves
import Derived.RangeFuncCalls
import Derived.OwnWalkIn
/- sherdref25.Put. -/
set_option linter.unusedVariables false
set_option linter.unusedSimpArgs false
namespace Sh
open Go Go.RowKit Go.Proofs
attribute [local go_sem ↓] Go.wp_at_zero Go.wp_at_succ
set_option maxHeartbeats 1000000
set_option maxRecDepth 100000

theorem nb_byte {n : Int} (h0 : 0 ≤ n) : nb 1 n = [UInt8.ofNat n.toNat] := by
  obtain ⟨k, rfl⟩ := Int.eq_ofNat_of_zero_le h0
  rw [nb_one]; simp
set_option maxHeartbeats 8000000
theorem rmput_ok {w : World} {R : Snap} {L : Asrt} (m : Ms) (H : Holds w R L) (hm : m.Rd R.cell?) (hz : m.Sz) (hok : msgOk m = true) :
    Calls Try.prog 57 #[.agg m.cells.toArray] w fun e w' => ∃ o, e = .returned o ∧ Holds w' R (star (rowB o (putM m)) L) := by
  have HM := Hid.mk' hm
  have HZ := Hid.mk' hz
  have HOK := Hid.mk' hok
  have hk := hok
  simp only [msgOk, Bool.and_eq_true, decide_eq_true_eq, Bool.or_eq_true] at hk
  obtain ⟨⟨⟨⟨⟨⟨⟨⟨⟨⟨k1, k2⟩, k3⟩, k4⟩, k5⟩, k6⟩, k7⟩, k8⟩, k9⟩, k10⟩, k11⟩ := hk
  have f1 := inAll_mem k4 (x := m.from_) (by simp)
  have f2 := inAll_mem k4 (x := m.to_) (by simp)
  have f3 := inAll_mem k5 (x := m.ballot) (by simp)
  have f4 := inAll_mem k5 (x := m.attempt) (by simp)
  have f5 := inAll_mem k5 (x := m.epoch) (by simp)
  have f6 := inAll_mem k5 (x := m.mark) (by simp)
  have f7 := inAll_mem k7 (x := m.size) (by simp)
  have f8 := inAll_mem k7 (x := (m.data.length : Int)) (by simp)
  have f9 := inAll_mem k8 (x := m.what) (by simp)
  have f10 := inAll_mem k8 (x := (m.who.length : Int)) (by simp)
  obtain ⟨kind, from_, to_, ballot, name, attempt, epoch, mark, size, what, vw, vn, vd, who, names, data⟩ := m
  obtain ⟨hw, hn, hd⟩ := hm
  obtain ⟨z1, z2, z3, z4, z5⟩ := hz
  simp only at z1 z2 z3 z4 z5 hw hn hd
  obtain ⟨aw, cw, rfl⟩ := hw.form
  obtain ⟨an, cn, rfl⟩ := hn.form
  obtain ⟨ad, cd, rfl⟩ := hd.form
  simp only at k1 k2 k6 k9 k10 k11 f1 f2 f3 f4 f5 f6 f7 f8 f9 f10
  obtain ⟨R1, le1, H1, hb⟩ := H.allocR (.cells #[.int .i64 kind, .int .i64 from_, .int .i64 to_, .int .i64 ballot, .string name, .int .i64 attempt, .int .i64 epoch, .int .i64 mark, .int .i64 size, .int .i64 what, .slice aw who.length cw, .slice an names.length cn, .slice ad data.length cd] tMsg (0, 0))
  have HW := Hid.mk' (Rd.le hw le1)
  have HN := Hid.mk' (Rd.le hn le1)
  have HD := Hid.mk' (Rd.le hd le1)
  have K6 := Hid.mk' k6
  have K10 := Hid.mk' k10
  have LE := Hid.mk' le1
  clear hw hn hd hok H k3 k4 k5 k7 k8 k6 k10 le1
  obtain ⟨l1, n1, c1⟩ := Holds.frzFacts (H1) hb
  show Calls _ _ #[.agg #[.int .i64 kind, .int .i64 from_, .int .i64 to_, .int .i64 ballot, .string name, .int .i64 attempt, .int .i64 epoch, .int .i64 mark, .int .i64 size, .int .i64 what, .slice aw who.length cw, .slice an names.length cn, .slice ad data.length cd]] _ _
  go_enter Try.func57, Try.ntmps57
  go_upto_region 2 with fail
  have hk8 : ((UInt8.ofNat kind.toNat).toNat : Int) = kind := by
    rw [UInt8.toNat_ofNat']; omega
  have H2 := H1.alloc #[.int .u8 77, .int .u8 kind] tU8
  have H3 := blkB (n := 2) H2 [77, UInt8.ofNat kind.toNat] (by
    show [Value.int .u8 77, Value.int .u8 kind] = [Value.int .u8 ((77 : UInt8).toNat : Int), Value.int .u8 ((UInt8.ofNat kind.toNat).toNat : Int)]
    rw [hk8]; rfl) rfl (by simp)
  clear hk8
  have eT : [77, UInt8.ofNat kind.toNat] = nb 1 77 ++ nb 1 kind := by rw [nb_byte (by omega), nb_byte (by omega)]; rfl
  rw [eT] at H3
  obtain ⟨T0, hT⟩ : ∃ T0, T0 = nb 1 77 ++ nb 1 kind := ⟨_, rfl⟩
  have hl : T0.length ≤ 2 := by rw [hT]; simp [nb_length, wid_1]
  rw [← hT] at H3
  have HT0 := Hid.mk' hT
  clear hT H1 H2 l1 n1 c1 eT
  rw [World.size_alloc] at H3
  generalize (World.alloc ..) = w3 at H3 ⊢
  generalize (w.heap.size + 1) = g3 at H3 ⊢
  obtain ⟨l1, n1, c1⟩ := Holds.frzFacts (H3) hb
  go_wp2_with fail
  refine (refnum_spec (k := 2) (n := from_) H3 (by omega)).mono ?_
  rintro e w4 ⟨o, rfl, H4⟩
  obtain ⟨ao, co, rfl⟩ := H4.rowRd.form
  have hrd : RdB w4.cell? (.slice ao (nb 2 from_).length co) (nb 2 from_) := H4.rowRd
  have hlk : (nb 2 from_).length ≤ 256 := by rw [nb_length, wid_2]; omega
  have H6 : Holds w4 R1 (star (rowB _ T0) (star (rowB _ (nb 2 from_)) L)) := H4.swap
  clear H3 l1 n1 c1
  go_wp2_with (with_reducible refine stop_append ?_)
  refine Hold.go (wpList_appendB (l := T0) (k := nb 2 from_) rfl _ _ rfl rfl rfl H6 hrd (by have h9 := hlk; omega) ?_)
  intro v5 w5 H5
  obtain ⟨T1, hT⟩ : ∃ T, T = T0 ++ nb 2 from_ := ⟨_, rfl⟩
  have hl1 : T1.length ≤ 6 := by rw [hT, List.length_append]; rw [nb_length]; simp only [wid_1, wid_2, wid_4]; omega
  rw [← hT] at H5
  have HT1 := Hid.mk' hT
  have H3 := H5.drop2
  clear hT hrd hlk H4 H6 H5 hl
  go_upto_region 3 with fail
  obtain ⟨l1, n1, c1⟩ := Holds.frzFacts (H3) hb
  go_wp2_with fail
  refine (refnum_spec (k := 2) (n := to_) H3 (by omega)).mono ?_
  rintro e w4 ⟨o, rfl, H4⟩
  obtain ⟨ao, co, rfl⟩ := H4.rowRd.form
  have hrd : RdB w4.cell? (.slice ao (nb 2 to_).length co) (nb 2 to_) := H4.rowRd
  have hlk : (nb 2 to_).length ≤ 256 := by rw [nb_length, wid_2]; omega
  have H6 : Holds w4 R1 (star (rowB _ T1) (star (rowB _ (nb 2 to_)) L)) := H4.swap
  clear H3 l1 n1 c1
  go_wp2_with (with_reducible refine stop_append ?_)
  refine Hold.go (wpList_appendB (l := T1) (k := nb 2 to_) rfl _ _ rfl rfl rfl H6 hrd (by have h9 := hlk; omega) ?_)
  intro v5 w5 H5
  obtain ⟨T2, hT⟩ : ∃ T, T = T1 ++ nb 2 to_ := ⟨_, rfl⟩
  have hl2 : T2.length ≤ 10 := by rw [hT, List.length_append]; rw [nb_length]; simp only [wid_1, wid_2, wid_4]; omega
  rw [← hT] at H5
  have HT2 := Hid.mk' hT
  have H3 := H5.drop2
  clear hT hrd hlk H4 H6 H5 hl1
  go_upto_region 4 with fail
  obtain ⟨l1, n1, c1⟩ := Holds.frzFacts (H3) hb
  go_wp2_with fail
  refine (refnum_spec (k := 4) (n := ballot) H3 (by omega)).mono ?_
  rintro e w4 ⟨o, rfl, H4⟩
  obtain ⟨ao, co, rfl⟩ := H4.rowRd.form
  have hrd : RdB w4.cell? (.slice ao (nb 4 ballot).length co) (nb 4 ballot) := H4.rowRd
  have hlk : (nb 4 ballot).length ≤ 256 := by rw [nb_length, wid_4]; omega
  have H6 : Holds w4 R1 (star (rowB _ T2) (star (rowB _ (nb 4 ballot)) L)) := H4.swap
  clear H3 l1 n1 c1
  go_wp2_with (with_reducible refine stop_append ?_)
  refine Hold.go (wpList_appendB (l := T2) (k := nb 4 ballot) rfl _ _ rfl rfl rfl H6 hrd (by have h9 := hlk; omega) ?_)
  intro v5 w5 H5
  obtain ⟨T3, hT⟩ : ∃ T, T = T2 ++ nb 4 ballot := ⟨_, rfl⟩
  have hl3 : T3.length ≤ 14 := by rw [hT, List.length_append]; rw [nb_length]; simp only [wid_1, wid_2, wid_4]; omega
  rw [← hT] at H5
  have HT3 := Hid.mk' hT
  have H3 := H5.drop2
  clear hT hrd hlk H4 H6 H5 hl2
  go_upto_region 5 with fail
  obtain ⟨l1, n1, c1⟩ := Holds.frzFacts (H3) hb
  obtain ⟨a9, c9, w9, hconv, R2, le2, H9, hs9⟩ := convBytes H3 z1
  go_wp2_with fail
  have hlen9 : (strB name).length ≤ 16 := by
    rw [strB_len]
    rcases k11 with k | k
    · omega
    · exact nameOk_len k
  refine (reftext_spec H9 hs9 (by omega)).mono ?_
  rintro e w4 ⟨o, rfl, H4⟩
  replace H4 : Holds w4 R2 (star (rowB o (txS name)) _) := H4
  replace hb := le2.blk _ _ hb
  have hlt9 : (txS name).length ≤ 256 := tx_len _
  clear hconv hs9
  obtain ⟨ao, co, rfl⟩ := H4.rowRd.form
  have hrd : RdB w4.cell? (.slice ao (txS name).length co) (txS name) := H4.rowRd
  have hlk : (txS name).length ≤ 256 := hlt9
  have H6 : Holds w4 R2 (star (rowB _ T3) (star (rowB _ (txS name)) L)) := H4.swap
  clear H3 l1 n1 c1
  go_wp2_with (with_reducible refine stop_append ?_)
  refine Hold.go (wpList_appendB (l := T3) (k := txS name) rfl _ _ rfl rfl rfl H6 hrd (by have h9 := hlk; omega) ?_)
  intro v5 w5 H5
  obtain ⟨T4, hT⟩ : ∃ T, T = T3 ++ txS name := ⟨_, rfl⟩
  have hl4 : T4.length ≤ 270 := by rw [hT, List.length_append]; omega
  rw [← hT] at H5
  have HT4 := Hid.mk' hT
  have H3 := H5.drop2
  clear hT hrd hlk H4 H6 H5 hl3
  go_upto_region 6 with fail
  obtain ⟨l1, n1, c1⟩ := Holds.frzFacts (H3) hb
  go_wp2_with fail
  refine (refnum_spec (k := 4) (n := attempt) H3 (by omega)).mono ?_
  rintro e w4 ⟨o, rfl, H4⟩
  obtain ⟨ao, co, rfl⟩ := H4.rowRd.form
  have hrd : RdB w4.cell? (.slice ao (nb 4 attempt).length co) (nb 4 attempt) := H4.rowRd
  have hlk : (nb 4 attempt).length ≤ 256 := by rw [nb_length, wid_4]; omega
  have H6 : Holds w4 R2 (star (rowB _ T4) (star (rowB _ (nb 4 attempt)) L)) := H4.swap
  clear H3 l1 n1 c1
  go_wp2_with (with_reducible refine stop_append ?_)
  refine Hold.go (wpList_appendB (l := T4) (k := nb 4 attempt) rfl _ _ rfl rfl rfl H6 hrd (by have h9 := hlk; omega) ?_)
  intro v5 w5 H5
  obtain ⟨T5, hT⟩ : ∃ T, T = T4 ++ nb 4 attempt := ⟨_, rfl⟩
  have hl5 : T5.length ≤ 274 := by rw [hT, List.length_append]; rw [nb_length]; simp only [wid_1, wid_2, wid_4]; omega
  rw [← hT] at H5
  have HT5 := Hid.mk' hT
  have H3 := H5.drop2
  clear hT hrd hlk H4 H6 H5 hl4
  go_upto_region 7 with fail
  obtain ⟨l1, n1, c1⟩ := Holds.frzFacts (H3) hb
  go_wp2_with fail
  refine (refnum_spec (k := 4) (n := epoch) H3 (by omega)).mono ?_
  rintro e w4 ⟨o, rfl, H4⟩
  obtain ⟨ao, co, rfl⟩ := H4.rowRd.form
  have hrd : RdB w4.cell? (.slice ao (nb 4 epoch).length co) (nb 4 epoch) := H4.rowRd
  have hlk : (nb 4 epoch).length ≤ 256 := by rw [nb_length, wid_4]; omega
  have H6 : Holds w4 R2 (star (rowB _ T5) (star (rowB _ (nb 4 epoch)) L)) := H4.swap
  clear H3 l1 n1 c1
  go_wp2_with (with_reducible refine stop_append ?_)
  refine Hold.go (wpList_appendB (l := T5) (k := nb 4 epoch) rfl _ _ rfl rfl rfl H6 hrd (by have h9 := hlk; omega) ?_)
  intro v5 w5 H5
  obtain ⟨T6, hT⟩ : ∃ T, T = T5 ++ nb 4 epoch := ⟨_, rfl⟩
  have hl6 : T6.length ≤ 278 := by rw [hT, List.length_append]; rw [nb_length]; simp only [wid_1, wid_2, wid_4]; omega
  rw [← hT] at H5
  have HT6 := Hid.mk' hT
  have H3 := H5.drop2
  clear hT hrd hlk H4 H6 H5 hl5
  go_upto_region 8 with fail
  obtain ⟨l1, n1, c1⟩ := Holds.frzFacts (H3) hb
  go_wp2_with fail
  refine (refnum_spec (k := 4) (n := mark) H3 (by omega)).mono ?_
  rintro e w4 ⟨o, rfl, H4⟩
  obtain ⟨ao, co, rfl⟩ := H4.rowRd.form
  have hrd : RdB w4.cell? (.slice ao (nb 4 mark).length co) (nb 4 mark) := H4.rowRd
  have hlk : (nb 4 mark).length ≤ 256 := by rw [nb_length, wid_4]; omega
  have H6 : Holds w4 R2 (star (rowB _ T6) (star (rowB _ (nb 4 mark)) L)) := H4.swap
  clear H3 l1 n1 c1
  go_wp2_with (with_reducible refine stop_append ?_)
  refine Hold.go (wpList_appendB (l := T6) (k := nb 4 mark) rfl _ _ rfl rfl rfl H6 hrd (by have h9 := hlk; omega) ?_)
  intro v5 w5 H5
  obtain ⟨T7, hT⟩ : ∃ T, T = T6 ++ nb 4 mark := ⟨_, rfl⟩
  have hl7 : T7.length ≤ 282 := by rw [hT, List.length_append]; rw [nb_length]; simp only [wid_1, wid_2, wid_4]; omega
  rw [← hT] at H5
  have HT7 := Hid.mk' hT
  have H3 := H5.drop2
  clear hT hrd hlk H4 H6 H5 hl6
  go_upto_region 9 with fail
  obtain ⟨l1, n1, c1⟩ := Holds.frzFacts (H3) hb
  go_wp2_with fail
  refine (refnum_spec (k := 2) (n := size) H3 (by omega)).mono ?_
  rintro e w4 ⟨o, rfl, H4⟩
  obtain ⟨ao, co, rfl⟩ := H4.rowRd.form
  have hrd : RdB w4.cell? (.slice ao (nb 2 size).length co) (nb 2 size) := H4.rowRd
  have hlk : (nb 2 size).length ≤ 256 := by rw [nb_length, wid_2]; omega
  have H6 : Holds w4 R2 (star (rowB _ T7) (star (rowB _ (nb 2 size)) L)) := H4.swap
  clear H3 l1 n1 c1
  go_wp2_with (with_reducible refine stop_append ?_)
  refine Hold.go (wpList_appendB (l := T7) (k := nb 2 size) rfl _ _ rfl rfl rfl H6 hrd (by have h9 := hlk; omega) ?_)
  intro v5 w5 H5
  obtain ⟨T8, hT⟩ : ∃ T, T = T7 ++ nb 2 size := ⟨_, rfl⟩
  have hl8 : T8.length ≤ 286 := by rw [hT, List.length_append]; rw [nb_length]; simp only [wid_1, wid_2, wid_4]; omega
  rw [← hT] at H5
  have HT8 := Hid.mk' hT
  have H3 := H5.drop2
  clear hT hrd hlk H4 H6 H5 hl7
  go_upto_region 10 with fail
  obtain ⟨l1, n1, c1⟩ := Holds.frzFacts (H3) hb
  go_wp2_with (with_reducible refine stop_append ?_)
  have hk8 : ((UInt8.ofNat what.toNat).toNat : Int) = what := by
    rw [UInt8.toNat_ofNat']; omega
  have hk9 : ((UInt8.ofNat (who.length : Int).toNat).toNat : Int) = (who.length : Int) := by
    rw [UInt8.toNat_ofNat']; omega
  have H4 := H3.alloc #[.int .u8 what, .int .u8 (who.length : Int)] tU8
  have H5 := blkB (n := 2) H4 [UInt8.ofNat what.toNat, UInt8.ofNat (who.length : Int).toNat] (by
    show [Value.int .u8 what, Value.int .u8 (who.length : Int)] = [Value.int .u8 ((UInt8.ofNat what.toNat).toNat : Int), Value.int .u8 ((UInt8.ofNat (who.length : Int).toNat).toNat : Int)]
    rw [hk8, hk9]) rfl (by simp)
  have eT : [UInt8.ofNat what.toNat, UInt8.ofNat (who.length : Int).toNat] = nb 1 what ++ nb 1 (who.length : Int) := by rw [nb_byte (by omega), nb_byte (by omega)]; rfl
  rw [eT] at H5
  have hlk : (nb 1 what ++ nb 1 (who.length : Int)).length = 2 := by rw [← eT]; rfl
  have hrd : RdB _ _ (nb 1 what ++ nb 1 (who.length : Int)) := H5.rowRd
  clear hk8 hk9 eT H3 H4
  refine Hold.go (wpList_appendB (l := T8) (k := nb 1 what ++ nb 1 (who.length : Int)) rfl _ _ rfl rfl rfl H5.swap hrd (by omega) ?_)
  intro v5 w5 H6
  clear l1 n1 c1
  obtain ⟨T9, hT⟩ : ∃ T, T = T8 ++ (nb 1 what ++ nb 1 (who.length : Int)) := ⟨_, rfl⟩
  have hl9 : T9.length ≤ 1000 := by rw [hT, List.length_append]; omega
  rw [← hT] at H6
  have HT9 := Hid.mk' hT
  have H3 := H6.drop2
  clear hT hrd hlk H5 H6 hl8
  go_upto_region 11 with fail
  go_wp2_with fail
  go_loopw [3, 4] (fun o i wx => ∃ j : Nat, i = .int .i64 j ∧ j ≤ who.length ∧ Holds wx R2 (star (rowB o (T9 ++ (who.take j).flatMap (nb 4))) L)) (fun _ i _ => who.length - (intOf i).toNat)
  case atStart => exact ⟨0, rfl, Nat.zero_le _, by simpa using H3⟩
  case round =>
    clear H3
    obtain ⟨j, rfl, hj, H4⟩ := hrel
    obtain ⟨l1, n1, c1⟩ := Holds.frzFacts (H4) hb
    by_cases hlt : j < who.length
    · obtain ⟨b1, o1, ha, hc⟩ := rdI_at (Rd.world (Rd.le HW.out le2) H4) hlt
      subst ha
      have hx := (inAll_mem K6.out (List.getElem_mem hlt)).2
      have hs : Hid ((who.take (j + 1)).flatMap (nb 4) = (who.take j).flatMap (nb 4) ++ nb 4 (who[j])) := Hid.mk' (by
        rw [List.take_succ_eq_append_getElem hlt, List.flatMap_append]; simp)
      have hl10 : (T9 ++ (who.take j).flatMap (nb 4)).length ≤ 1000000 := by
        rw [List.length_append, flatB_len (k := 4) (fun x => by rw [nb_length, wid_4]), List.length_take]; omega
      generalize who[j] = x at hc hx hs
      go_wp2_with fail
      refine (refnum_spec (k := 4) (n := x) H4 (by omega)).mono ?_
      rintro e w5 ⟨o5, rfl, H5⟩
      obtain ⟨ao, co, rfl⟩ := H5.rowRd.form
      have hrd : RdB w5.cell? (.slice ao (nb 4 x).length co) (nb 4 x) := H5.rowRd
      have hlk : (nb 4 x).length = 4 := by rw [nb_length, wid_4]
      have H6 := H5.swap
      clear H4 l1 n1 c1
      go_wp2_with (with_reducible refine stop_append ?_)
      refine Hold.go (wpList_appendB (l := T9 ++ (who.take j).flatMap (nb 4)) (k := nb 4 x) rfl _ _ rfl rfl rfl H6 hrd (by omega) ?_)
      intro v7 w7 H7
      go_wp2_with fail
      go_roundw
      case rel => exact ⟨j + 1, by go_num, hlt, by rw [hs.out, ← List.append_assoc]; exact H7.drop2⟩
      case measure => simp [intOf]; omega
    · obtain rfl : j = who.length := by omega
      rw [List.take_length] at H4
      obtain ⟨T10, hT⟩ : ∃ T, T = T9 ++ who.flatMap (nb 4) := ⟨_, rfl⟩
      have hl10 : T10.length ≤ 3000 := by
        rw [hT, List.length_append, flatB_len (k := 4) (fun x => by rw [nb_length, wid_4])]; omega
      rw [← hT] at H4
      have HT10 := Hid.mk' hT
      clear hT hl9
      go_wp2_with (with_reducible refine stop_append ?_)
      have hk9 : ((UInt8.ofNat names.length).toNat : Int) = (names.length : Int) := by
        rw [UInt8.toNat_ofNat']; omega
      have H5 := H4.alloc #[.int .u8 (names.length : Int)] tU8
      have H6 := blkB (n := 1) H5 [UInt8.ofNat names.length] (by
        show [Value.int .u8 (names.length : Int)] = [Value.int .u8 ((UInt8.ofNat names.length).toNat : Int)]
        rw [hk9]) rfl (by simp)
      rw [← nb_one] at H6
      have hlk : (nb 1 (names.length : Int)).length = 1 := by rw [nb_length, wid_1]
      have hrd : RdB _ _ (nb 1 (names.length : Int)) := H6.rowRd
      clear hk9 H4 H5
      refine Hold.go (wpList_appendB (l := T10) (k := nb 1 (names.length : Int)) rfl _ _ rfl rfl rfl H6.swap hrd (by omega) ?_)
      intro v7 w7 H7
      clear l1 n1 c1
      obtain ⟨T11, hT⟩ : ∃ T, T = T10 ++ nb 1 (names.length : Int) := ⟨_, rfl⟩
      have hl11 : T11.length ≤ 3001 := by rw [hT, List.length_append]; omega
      rw [← hT] at H7
      have HT11 := Hid.mk' hT
      have H3 := H7.drop2
      clear hT hrd hlk H6 H7 hl10
      go_wp2_with fail
      go_loopw [3, 5] (fun o i wx => ∃ (j : Nat) (R3 : Snap), i = .int .i64 j ∧ j ≤ names.length ∧ R2.le R3 ∧ Holds wx R3 (star (rowB o (T11 ++ (names.take j).flatMap txS)) L)) (fun _ i _ => names.length - (intOf i).toNat)
      case atStart => exact ⟨0, R2, rfl, Nat.zero_le _, Snap.le.refl _, by simpa using H3⟩
      case round =>
        clear H3
        obtain ⟨j, R3, rfl, hj, le3, H4⟩ := hrel
        have hb3 := le3.blk _ _ hb
        obtain ⟨l1, n1, c1⟩ := Holds.frzFacts (H4) hb3
        by_cases hlt : j < names.length
        · obtain ⟨b1, o1, ha, hc⟩ := rdS_at (Rd.world (Rd.le (Rd.le HN.out le2) le3) H4) hlt
          subst ha
          have hx16 := nameOk_len (List.all_eq_true.1 K10.out _ (List.getElem_mem hlt))
          have hxm := z2 _ (List.getElem_mem hlt)
          have hs : Hid ((names.take (j + 1)).flatMap txS = (names.take j).flatMap txS ++ txS (names[j])) := Hid.mk' (by
            rw [List.take_succ_eq_append_getElem hlt, List.flatMap_append]; simp)
          have hl12 : (T11 ++ (names.take j).flatMap txS).length ≤ 900000 := by
            rw [List.length_append]
            have := txs_len K10.out j
            omega
          generalize names[j] = x at hc hx16 hxm hs
          obtain ⟨a9, c9, w22, hconv, R4, le4, H5, hs22⟩ := convBytes H4 hxm
          go_wp2_with fail
          refine (reftext_spec H5 hs22 (by rw [strB_len]; omega)).mono ?_
          rintro e w6 ⟨o6, rfl, H6⟩
          replace H6 : Holds w6 R4 (star (rowB o6 (txS x)) _) := H6
          obtain ⟨ao, co, rfl⟩ := H6.rowRd.form
          have hrd : RdB w6.cell? (.slice ao (txS x).length co) (txS x) := H6.rowRd
          have hlk : (txS x).length ≤ 256 := tx_len _
          have H7 := H6.swap
          clear H4 H5 l1 n1 c1 hconv
          go_wp2_with (with_reducible refine stop_append ?_)
          refine Hold.go (wpList_appendB (l := T11 ++ (names.take j).flatMap txS) (k := txS x) rfl _ _ rfl rfl rfl H7 hrd (by omega) ?_)
          intro v8 w8 H8
          go_wp2_with fail
          go_roundw
          case rel => exact ⟨j + 1, R4, by go_num, hlt, le3.trans le4, by rw [hs.out, ← List.append_assoc]; exact H8.drop2⟩
          case measure => simp [intOf]; omega
        · obtain rfl : j = names.length := by omega
          rw [List.take_length] at H4
          have hl12 : (T11 ++ names.flatMap txS).length ≤ 900000 := by
            rw [List.length_append]
            have := txs_len K10.out names.length
            rw [List.take_length] at this
            omega
          go_wp2_with fail
          refine (reftext_spec H4 (Rd.le (Rd.le HD.out le2) le3) z5).mono ?_
          rintro e w6 ⟨o6, rfl, H6⟩
          replace H6 : Holds w6 R3 (star (rowB o6 (tx data)) _) := H6
          obtain ⟨ao, co, rfl⟩ := H6.rowRd.form
          have hrd : RdB w6.cell? (.slice ao (tx data).length co) (tx data) := H6.rowRd
          have hlk : (tx data).length ≤ 256 := tx_len _
          have H7 := H6.swap
          clear H4 l1 n1 c1
          go_wp2_with (with_reducible refine stop_append ?_)
          refine Hold.go (wpList_appendB (l := T11 ++ names.flatMap txS) (k := tx data) rfl _ _ rfl rfl rfl H7 hrd (by omega) ?_)
          intro v8 w8 H8
          have e24 : T11 ++ names.flatMap txS ++ tx data = bodyB (⟨kind, from_, to_, ballot, name, attempt, epoch, mark, size, what, .slice aw who.length cw, .slice an names.length cn, .slice ad data.length cd, who, names, data⟩ : Ms) := by
            rw [HT11.out, HT10.out, HT9.out, HT8.out, HT7.out, HT6.out, HT5.out, HT4.out, HT3.out, HT2.out, HT1.out, HT0.out]
            simp only [bodyB, bodyS, List.append_assoc, List.append_nil]
          have hbl : (bodyB (⟨kind, from_, to_, ballot, name, attempt, epoch, mark, size, what, .slice aw who.length cw, .slice an names.length cn, .slice ad data.length cd, who, names, data⟩ : Ms)).length ≤ 1000000 := by have := body_len HOK.out; omega
          rw [e24] at H8
          obtain ⟨R9, le9, H9, hr9⟩ := H8.drop2.freezeRow
          clear e24 hrd hlk H6 H7 H8
          go_wp2_with fail
          refine (cseal_ref H9 hr9 hbl).mono ?_
          rintro e w10 ⟨o, rfl, H10⟩
          go_wp2_with fail
          go_ret
          exact ⟨o, rfl, H10.weaken (((LE.out.trans le2).trans le3).trans le9)⟩
end Sh
/- The reference's names: sherdref07.Put, Get. -/
set_option linter.unusedVariables false
set_option linter.unusedSimpArgs false
namespace Sh
open Go Go.RowKit Go.Proofs
attribute [local go_sem ↓] Go.wp_at_zero Go.wp_at_succ
set_option maxHeartbeats 1000000
set_option maxRecDepth 100000

def nameS (s : ByteArray) (j : Nat) : List UInt8 := nb 1 (s.size : Int) ++ ((strB s).take j ++ List.replicate (16 - j) 0)
theorem nameS_end (s : ByteArray) : nameS s s.size = nameB s := by
  rw [nameS, nameB, List.take_of_length_le (by rw [strB_sz]; omega)]; rfl
theorem nameS_start (s : ByteArray) : nameS s 0 = nb 1 (s.size : Int) ++ List.replicate 16 0 := by simp [nameS]
theorem nameS_next (s : ByteArray) (j : Nat) (h : j < s.size) (h16 : s.size ≤ 16) : (nameS s j).set (1 + j) s[j] = nameS s (j + 1) := by
  have hl : (nb 1 (s.size : Int)).length = 1 := by rw [nb_length, wid_1]
  have hj : j < (strB s).length := by rw [strB_sz]; exact h
  have ht : ((strB s).take j).length = j := by rw [List.length_take]; omega
  rw [nameS, nameS, List.set_append_right _ _ (by omega), hl, List.set_append_right _ _ (by rw [ht]; omega), ht]
  have e1 : 1 + j - 1 - j = 0 := by omega
  have e2 : 16 - j = (16 - (j + 1)) + 1 := by omega
  rw [e1, e2, List.replicate_succ, List.set_cons_zero, List.take_succ_eq_append_getElem hj, List.append_assoc]
  have e3 : (strB s)[j] = s[j] := by simp only [strB]; rfl
  rw [e3]; rfl
theorem lrput_spec {w : World} {R : Snap} {L : Asrt} {s : ByteArray} (H : Holds w R L) (hok : nameOk s = true) :
    Calls Try.prog 160 #[.string s] w fun e w' => ∃ o, e = .returned o ∧ Holds w' R (star (rowB o (nameB s)) L) := by
  have hs := nameOk_le hok
  have hmx : s.size ≤ maxLen := by simp only [maxLen]; omega
  have hR := rright_spec hmx
  have HOK := Hid.mk' hok
  have HS := Hid.mk' hs
  clear hok
  go_enter Try.func160, Try.ntmps160
  go_wp2_with (with_reducible refine stop_make ?_)
  refine Hold.go (wpList_makeB (n := 17) rfl _ _ rfl rfl rfl H (by decide) ?_)
  intro v1 w1 H1
  obtain ⟨g, cap, rfl, hcap, hg, _, hf⟩ := H1.rowAt (by decide)
  clear hf hg
  replace H1 : Holds w1 R (star (row tU8 1 (.slice (some ⟨g, 0, none⟩) 17 cap) 17 (u8s (List.replicate 17 0))) L) := H1
  go_wp2_with fail
  refine (hR _).mono ?_
  rintro e w2 ⟨rfl, rfl⟩
  rw [HOK.out]
  obtain ⟨_, _, e0, _, g0, h0, f0⟩ := Holds.rowAt (n := 17) H1 (by decide)
  simp only [Value.slice.injEq, Option.some.injEq, Addr.mk.injEq, and_true, true_and] at e0
  obtain ⟨rfl, rfl⟩ := e0
  have c0 := h0 0 _ rfl
  clear h0
  go_upto_region 4 with fail
  have H2 := row_write H1 0 (s.size : Int) (by decide) (by omega)
  generalize (World.setCell ..) = w3 at H2 ⊢
  have e : (List.replicate 17 (0 : UInt8)).set 0 (UInt8.ofNat (s.size : Int).toNat) = nameS s 0 := by
    rw [nameS_start, nb_byte (by omega)]; rfl
  rw [e] at H2
  clear e H1 g0 c0 f0
  go_wp2_with fail
  go_loopw [4] (fun i wx => ∃ j : Nat, i = .int .i64 j ∧ j ≤ s.size ∧ Holds wx R (star (row tU8 1 (.slice (some ⟨g, 0, none⟩) 17 cap) 17 (u8s (nameS s j))) L)) (fun i _ => s.size - (intOf i).toNat)
  case atStart => exact ⟨0, rfl, Nat.zero_le _, H2⟩
  case round =>
    clear H2
    obtain ⟨j, rfl, hj, H3⟩ := hrel
    have HX := Hid.mk' (nameS_next s j)
    by_cases hlt : j < s.size
    · have d1 : decide ((j : Int) < (s.size : Int)) = true := by simp; omega
      have hx := u8_lt s[j]
      obtain ⟨_, _, e0, _, g0, h0, f0⟩ := Holds.rowAt (n := 17) H3 (by decide)
      simp only [Value.slice.injEq, Option.some.injEq, Addr.mk.injEq, and_true, true_and] at e0
      obtain ⟨rfl, rfl⟩ := e0
      have hln : (nameS s j).length = 17 := by
        rw [nameS, List.length_append, List.length_append, nb_length, wid_1, List.length_take, List.length_replicate, strB_sz]; omega
      obtain ⟨u0, c0⟩ : ∃ u, wr.cell? ⟨g, 1 + j, none⟩ = some u := ⟨_, h0 (1 + j) _ (u8s_get _ _ (by rw [hln]; omega))⟩
      clear h0 hln
      have i1 : (0 : Int) ≤ 1 + (j : Int) := by omega
      have i2 : 1 + (j : Int) < 17 := by omega
      have i3 : (1 + (j : Int)).toNat = 1 + j := by omega
      go_upto_region 6 with fail
      have H4 := row_write H3 (1 + j) (s[j].toNat : Int) (by omega) (by omega)
      have e : (nameS s j).set (1 + j) (UInt8.ofNat ((s[j].toNat : Nat) : Int).toNat) = nameS s (j + 1) := by
        rw [← HX.out hlt HS.out]; congr 1; simp
      rw [e] at H4
      clear H3 g0 c0 f0 e
      go_wp2_with fail
      go_roundw
      case rel => exact ⟨j + 1, by go_num, hlt, H4⟩
      case measure => simp [intOf]; omega
    · have d1 : decide ((j : Int) < (s.size : Int)) = false := by simp; omega
      obtain rfl : j = s.size := by omega
      go_wp2_with fail
      go_ret
      rw [nameS_end] at H3
      refine ⟨_, rfl, ?_⟩
      have hl : (nameB s).length = 17 := by rw [← nameS_end, nameS, List.length_append, List.length_append, nb_length, wid_1, List.length_take, List.length_replicate, strB_sz]; omega
      show Holds wr R (star (row tU8 1 (.slice (some ⟨g, 0, none⟩) 17 cap) (nameB s).length (u8s (nameB s))) L)
      rw [hl]; exact H3
end Sh
/- msg: what Get reads by: numbers, texts, many of them. -/
set_option linter.unusedVariables false
set_option linter.unusedSimpArgs false
namespace Sh
open Go Go.RowKit Go.Proofs
attribute [local go_sem ↓] Go.wp_at_zero Go.wp_at_succ
set_option maxHeartbeats 1000000
set_option maxRecDepth 100000

abbrev rdrT : TypeId := 211
theorem rd_num {w : World} {R : Snap} {L : Asrt} {p : Nat} {v : Value} {s : PSt} {k : Nat} (hk : wid k = k) (H : Holds w R (star (blk p #[v, .bool s.2] rdrT) L)) (hr : RdB R.cell? v s.1) :
    Calls Try.prog 127 #[.pointer (some ⟨p, 0, none⟩), .int .i64 (k : Int)] w fun e w' => ∃ v', e = .returned (.int .i64 ((pNum k s).1 : Nat)) ∧ Holds w' R (star (blk p #[v', .bool (pNum k s).2.2] rdrT) L) ∧ RdB R.cell? v' (pNum k s).2.1 := by
  have h := rnum_spec (k := (k : Int)) H hr
  rw [hk] at h
  exact h
theorem rd_text {w : World} {R : Snap} {L : Asrt} {p : Nat} {v : Value} {s : PSt} (H : Holds w R (star (blk p #[v, .bool s.2] rdrT) L)) (hr : RdB R.cell? v s.1) (hl : s.1.length ≤ 1000000) :
    Calls Try.prog 129 #[.pointer (some ⟨p, 0, none⟩)] w fun e w' => ∃ o v', e = .returned o ∧ Holds w' R (star (rowB o (pText s).1) (star (blk p #[v', .bool (pText s).2.2] rdrT) L)) ∧ RdB R.cell? v' (pText s).2.1 := rtext_spec H hr hl
theorem cutRest_le (l : List UInt8) (b : Bool) (n : Nat) : (cutRest l b n).length ≤ l.length := by
  unfold cutRest; split
  · rw [List.length_drop]; omega
  · simp
theorem pNum_le (k : Nat) (s : PSt) : (pNum k s).2.1.length ≤ s.1.length := cutRest_le _ _ _
theorem pText_le (s : PSt) : (pText s).2.1.length ≤ s.1.length := Nat.le_trans (cutRest_le _ _ _) (pNum_le 1 s)
theorem pNum1_lt (s : PSt) : (pNum 1 s).1 < 256 := by
  show valB (cutOut s.1 s.2 1) < 256
  have h := valB_lt (cutOut s.1 s.2 1)
  have h2 : (cutOut s.1 s.2 1).length ≤ 1 := by
    unfold cutOut; split
    · rw [List.length_take]; omega
    · simp
  have h3 : 256 ^ (cutOut s.1 s.2 1).length ≤ 256 ^ 1 := Nat.pow_le_pow_right (by omega) h2
  omega
theorem get2_spec {w : World} {R : Snap} {L : Asrt} {p g : Nat} {v : Value} {s : PSt} {t : TypeId} {fr : Nat × Nat} (hg : R.blk g = some (.cells #[.func (.func 127) #[.pointer (some ⟨p, 0, none⟩)] #[]] t fr)) (H : Holds w R (star (blk p #[v, .bool s.2] rdrT) L)) (hr : RdB R.cell? v s.1) :
    Calls Try.prog 131 #[.pointer (some ⟨g, 0, none⟩)] w fun e w' => ∃ v', e = .returned (.int .i64 ((pNum 4 s).1 : Nat)) ∧ Holds w' R (star (blk p #[v', .bool (pNum 4 s).2.2] rdrT) L) ∧ RdB R.cell? v' (pNum 4 s).2.1 := by
  obtain ⟨l1, n1, c1⟩ := Holds.frzFacts (H) hg
  go_enter Try.func131, Try.ntmps131
  go_wp2_with fail
  refine (rd_num (k := 4) (by decide) H hr).mono ?_
  rintro e w2 ⟨v2, rfl, H2, hr2⟩
  go_wp2_with fail
  go_ret
  exact ⟨v2, rfl, H2, hr2⟩
theorem pMany_more {α : Type} {f : PSt → α × PSt} {m : Nat} {s : PSt} (h : s.2 = false) : pMany f (m + 1) s = ((f s).1 :: (pMany f m (f s).2).1, (pMany f m (f s).2).2) := by
  rw [pMany, if_neg (by simp [h])]
theorem pMany_bad {α : Type} {f : PSt → α × PSt} {m : Nat} {s : PSt} (h : s.2 = true) : pMany f m s = ([], s) := by
  cases m with
  | zero => rfl
  | succ m => rw [pMany, if_pos h]
theorem manyInts_spec {w : World} {R : Snap} {L : Asrt} {p g : Nat} {v : Value} {s : PSt} {t : TypeId} {fr : Nat × Nat} (hg : R.blk g = some (.cells #[.func (.func 127) #[.pointer (some ⟨p, 0, none⟩)] #[]] t fr)) (H : Holds w R (star (blk p #[v, .bool s.2] rdrT) L)) (hr : RdB R.cell? v s.1) :
    Calls Try.prog 130 #[.pointer (some ⟨p, 0, none⟩), .func (.func 131) #[] #[.pointer (some ⟨g, 0, none⟩)]] w fun e w' => ∃ o v', e = .returned o ∧ Holds w' R (star (row tInt 1 o (pMany (pNum 4) (pNum 1 s).1 (pNum 1 s).2).1.length ((toInts (pMany (pNum 4) (pNum 1 s).1 (pNum 1 s).2).1).map (Value.int .i64))) (star (blk p #[v', .bool (pMany (pNum 4) (pNum 1 s).1 (pNum 1 s).2).2.2] rdrT) L)) ∧ RdB R.cell? v' (pMany (pNum 4) (pNum 1 s).1 (pNum 1 s).2).2.1 := by
  obtain ⟨q, hq⟩ : ∃ q, q = pMany (pNum 4) (pNum 1 s).1 (pNum 1 s).2 := ⟨_, rfl⟩
  rw [← hq]
  go_enter Try.func130, Try.ntmps130
  go_wp2_with fail
  refine (rd_num (k := 1) (by decide) H hr).mono ?_
  rintro e w2 ⟨v2, rfl, H2, hr2⟩
  have hlt := pNum1_lt s
  clear H hr
  generalize (pNum 1 s).1 = n at *
  generalize (pNum 1 s).2 = s1 at *
  have HQ := Hid.mk' hq
  have HG := Hid.mk' hg
  clear hq hg
  go_wp2_with fail
  go_loopw [5, 6] (fun o i wx => ∃ (m : Nat) (X : List Nat) (s2 : PSt) (v2 : Value), i = .int .i64 m ∧ X.length + m ≤ 255 ∧ Hid (q = (X ++ (pMany (pNum 4) m s2).1, (pMany (pNum 4) m s2).2)) ∧ Hid (RdB R.cell? v2 s2.1) ∧ Holds wx R (star (row tInt 1 o X.length ((toInts X).map (Value.int .i64))) (star (blk p #[v2, .bool s2.2] rdrT) L))) (fun _ i _ => (intOf i).toNat)
  case atStart => exact ⟨n, [], s1, v2, rfl, by simp only [List.length_nil]; omega, Hid.mk' (by rw [HQ.out]; rfl), Hid.mk' hr2, H2.nilRow _ 1⟩
  case round =>
    clear H2 hr2
    obtain ⟨m, X, s2, v3, rfl, hX, hQ, hR, H3⟩ := hrel
    have H3s := H3.swap
    cases m with
    | zero =>
      have i1 : ¬ ((0 : Nat) : Int) > 0 := by omega
      go_wp2_with fail
      go_ret
      have h := hQ.out
      rw [pMany, List.append_nil] at h
      rw [h]
      exact ⟨_, rfl, v3, H3, hR.out⟩
    | succ m =>
      have i1 : (((m + 1 : Nat) : Int) > 0) := by omega
      have d1 : decide (((m + 1 : Nat) : Int) > 0) = true := decide_eq_true i1
      have d2 : decide ((0 : Int) < ((m + 1 : Nat) : Int)) = true := decide_eq_true i1
      cases hb : s2.2 with
      | true =>
        rw [hb] at H3 H3s
        go_wp2_with fail
        refine (rgood_spec H3s).mono ?_
        rintro e w4 ⟨rfl, rfl⟩
        go_wp2_with fail
        go_ret
        have h := hQ.out
        rw [pMany_bad hb, List.append_nil] at h
        rw [h, hb]
        exact ⟨_, v3, rfl, H3, hR.out⟩
      | false =>
        rw [hb] at H3 H3s
        go_wp2_with fail
        refine (rgood_spec H3s).mono ?_
        rintro e w4 ⟨rfl, rfl⟩
        go_wp2_with fail
        refine (get2_spec (s := s2) HG.out (by rw [hb]; exact H3s) hR.out).mono ?_
        rintro e w5 ⟨v5, rfl, H5, hr5⟩
        have H6 := H5.alloc #[.int .i64 ((pNum 4 s2).1 : Nat)] tInt
        have hr6 : RdI _ _ [((pNum 4 s2).1 : Int)] := (H6.toRow 1 1 1 (Nat.le_refl _) (by simp [maxLen]) rfl).rowRd
        clear H3 H3s
        go_wp2_with (with_reducible refine stop_append ?_)
        refine Hold.go (wpList_append rfl _ _ rfl undInts infoInt rfl (by decide) rfl rfl H6.drop.swap hr6 (ints_one _) (by simp only [maxLen, List.length_singleton]; omega) (by simp only [List.length_singleton]; omega) ?_)
        intro v8 w8 H8
        have hw : IntKind.i64.wrap (((m + 1 : Nat) : Int) - 1) = (m : Int) := by
          rw [show (((m + 1 : Nat) : Int) - 1) = (m : Int) by omega]; exact IntWalk.i64_in _ (by omega)
        go_wp2_with fail
        go_roundw
        case rel =>
          refine ⟨m, X ++ [(pNum 4 s2).1], (pNum 4 s2).2, v5, by go_num, by rw [List.length_append, List.length_singleton]; omega, Hid.mk' ?_, Hid.mk' hr5, ?_⟩
          · rw [hQ.out, pMany_more hb]; simp
          · rw [List.length_append, List.length_singleton, toInts, List.map_append]
            simpa [toInts] using H8
        case measure => simp [intOf]
end Sh
/- label.Get. -/
set_option linter.unusedVariables false
set_option linter.unusedSimpArgs false
namespace Sh
open Go Go.RowKit Go.Proofs
attribute [local go_sem ↓] Go.wp_at_zero Go.wp_at_succ
set_option maxHeartbeats 1000000
set_option maxRecDepth 100000

theorem get1z_spec (c : Nat) (h : c ≤ 255) (w : World) : Calls Try.prog 199 #[.int .u8 c] w fun e w' => e = .returned (.bool (decide (c ≠ 0))) ∧ w = w' := by
  by_cases h0 : c = 0
  · subst h0
    go_enter Try.func199, Try.ntmps199
    go_wp2_with fail
    go_ret
    exact ⟨rfl, rfl⟩
  · have t0 : ((c : Int) != 0) = true := by simp; omega
    go_enter Try.func199, Try.ntmps199
    go_wp2_with fail
    go_ret
    exact ⟨ret_bool (by simp [h0]), rfl⟩
theorem indexFunc_spec {w : World} {v : Value} {l : List UInt8} (hr : RdB w.cell? v l) :
    Calls Try.prog 200 #[v, .func (.func 199) #[] #[]] w fun e w' => (∃ k : Int, e = .returned (.int .i64 k) ∧ -1 ≤ k ∧ k ≤ 9223372036854775807 ∧ (l.all (fun c => decide (c = 0)) = true → k < 0)) ∧ w = w' := by
  have hmx := hr.max
  unfold maxLen at hmx
  obtain ⟨a, c, rfl⟩ := hr.form
  obtain ⟨n, hn⟩ : ∃ n, n = l.length := ⟨_, rfl⟩
  rw [← hn] at hmx ⊢
  have HN := Hid.mk' hn
  have HR := Hid.mk' hr
  clear hn hr
  go_enter Try.func200, Try.ntmps200
  go_wp2_with fail
  go_loop [8] (fun i => ∃ j : Nat, i = .int .i64 j ∧ j ≤ n ∧ Hid (∀ k (h : k < l.length), k < j → l[k] = 0)) (fun i => n - (intOf i).toNat)
  case atStart => exact ⟨0, rfl, Nat.zero_le _, Hid.mk' (fun k _ h => absurd h (Nat.not_lt_zero k))⟩
  case round =>
    obtain ⟨j, rfl, hj, hA⟩ := hrel
    by_cases hlt : j < n
    · have d1 : decide ((j : Int) < (n : Int)) = true := by simp; omega
      have hjl : j < l.length := by rw [← HN.out]; exact hlt
      obtain ⟨b1, o1, ha, hc⟩ := RdB.open HR.out (by omega)
      subst ha
      have hcj := hc j hjl
      obtain ⟨y, hy⟩ : ∃ y, y = l[j] := ⟨_, rfl⟩
      rw [← hy] at hcj
      have HY := Hid.mk' hy
      have hx := u8_lt y
      obtain ⟨z, hz⟩ : ∃ z, z = y.toNat := ⟨_, rfl⟩
      rw [← hz] at hcj hx
      have HZ := Hid.mk' hz
      have i1 : (0 : Int) ≤ (j : Int) := by omega
      have i2 : (j : Int) < (n : Int) := by omega
      clear hc hy hz
      go_wp2_with fail
      refine (get1z_spec z (by omega) _).mono ?_
      rintro e w4 ⟨rfl, rfl⟩
      by_cases h0 : z = 0
      · rw [decide_eq_false (by simpa using h0)]
        go_wp2_with fail
        go_round
        case rel =>
          refine ⟨j + 1, by go_num, hlt, Hid.mk' (fun k h1 h2 => ?_)⟩
          rcases Nat.lt_or_ge k j with h3 | h3
          · exact hA.out k h1 h3
          · obtain rfl : k = j := by omega
            rw [← HY.out]
            apply UInt8.toNat_inj.1
            rw [← HZ.out, h0]; rfl
        case measure => simp [intOf]; omega
      · rw [decide_eq_true (by simpa using h0)]
        have H0 := Hid.mk' h0
        clear h0
        go_wp2_with fail
        go_ret
        refine ⟨⟨_, rfl, by omega, by omega, fun h => ?_⟩, rfl⟩
        have h2 := List.all_eq_true.1 h _ (List.getElem_mem hjl)
        rw [decide_eq_true_eq, ← HY.out] at h2
        exact absurd (by rw [HZ.out, h2]; rfl) H0.out
    · have d1 : decide ((j : Int) < (n : Int)) = false := by simp; omega
      go_wp2_with fail
      go_ret
      exact ⟨⟨_, rfl, by omega, by omega, fun _ => by omega⟩, rfl⟩
theorem contains_spec {w : World} {v : Value} {l : List UInt8} (hr : RdB w.cell? v l) :
    Calls Try.prog 198 #[v, .func (.func 199) #[] #[]] w fun e w' => (∃ b : Bool, e = .returned (.bool b) ∧ (l.all (fun c => decide (c = 0)) = true → b = false)) ∧ w = w' := by
  have hI := indexFunc_spec hr
  obtain ⟨a, c, rfl⟩ := hr.form
  go_enter Try.func198, Try.ntmps198
  go_wp2_with fail
  refine hI.mono ?_
  rintro e w1 ⟨⟨k, rfl, h1, h2, h3⟩, rfl⟩
  have H3 := Hid.mk' h3
  clear h3 hr hI
  by_cases hk : 0 ≤ k
  · have t : decide (0 ≤ k) = true := by simpa using hk
    go_wp2_with fail
    go_ret
    exact ⟨⟨true, rfl, fun h => by have := H3.out h; omega⟩, rfl⟩
  · have t : decide (0 ≤ k) = false := by simpa using hk
    go_wp2_with fail
    go_ret
    exact ⟨⟨false, rfl, fun _ => rfl⟩, rfl⟩
theorem rd_raw {w : World} {R : Snap} {L : Asrt} {p : Nat} {v : Value} {s : PSt} {k : Nat} (H : Holds w R (star (blk p #[v, .bool s.2] rdrT) L)) (hr : RdB R.cell? v s.1) (hl : s.1.length ≤ 1000000) :
    Calls Try.prog 188 #[.pointer (some ⟨p, 0, none⟩), .int .i64 (k : Int)] w fun e w' => ∃ o v', e = .returned o ∧ Holds w' R (star (rowB o (pRaw k s).1) (star (blk p #[v', .bool (pRaw k s).2.2] rdrT) L)) ∧ RdB R.cell? v' (pRaw k s).2.1 := by
  have h := rraw_spec (n := (k : Int)) H hr hl
  rw [Int.toNat_natCast] at h
  exact h
theorem name_parse {s : PSt} {name : ByteArray} {r : List UInt8} (hok : nameOk name = true) (h : s = (nameB name ++ r, false)) : (pNum 1 s).1 = name.size ∧ pRaw 16 (pNum 1 s).2 = (strB name ++ List.replicate (16 - name.size) 0, (r, false)) := by
  have hs := nameOk_le hok
  have h1 : pNum 1 s = (name.size, (strB name ++ List.replicate (16 - name.size) 0 ++ r, false)) := by
    rw [h, nameB, List.append_assoc]
    have := pNum_nb (k := 1) (by decide) (n := (name.size : Int)) (by omega) (by show (name.size : Int) < 256; omega) (strB name ++ List.replicate (16 - name.size) 0 ++ r)
    simpa [strB] using this
  rw [h1]
  refine ⟨rfl, ?_⟩
  have hl : (strB name ++ List.replicate (16 - name.size) (0 : UInt8)).length = 16 := by rw [List.length_append, strB_sz, List.length_replicate]; omega
  have h2 := pRaw_app (l := strB name ++ List.replicate (16 - name.size) (0 : UInt8)) r
  rw [hl] at h2
  exact h2
theorem lget_spec {w : World} {R : Snap} {L : Asrt} {p : Nat} {v : Value} {s : PSt} (H : Holds w R (star (blk p #[v, .bool s.2] rdrT) L)) (hr : RdB R.cell? v s.1) (hl : s.1.length ≤ 1000000) :
    Calls Try.prog 194 #[.pointer (some ⟨p, 0, none⟩)] w fun e w' => ∃ (nm : ByteArray) (ob v' : Value), e = .returned (.tuple #[.string nm, ob]) ∧ Holds w' R (star (blk p #[v', .bool (pRaw 16 (pNum 1 s).2).2.2] rdrT) L) ∧ RdB R.cell? v' (pRaw 16 (pNum 1 s).2).2.1 ∧ nm.size ≤ 16 ∧ (∀ name r, nameOk name = true → s = (nameB name ++ r, false) → nm = name) := by
  have hcomp : ∀ name r, nameOk name = true → s = (nameB name ++ r, false) → (pNum 1 s).1 = name.size ∧ (pRaw 16 (pNum 1 s).2).1 = strB name ++ List.replicate (16 - name.size) 0 ∧ (pRaw 16 (pNum 1 s).2).2.2 = false := fun name r h1 h2 => by
    obtain ⟨h3, h4⟩ := name_parse h1 h2
    exact ⟨h3, by rw [h4], by rw [h4]⟩
  have hlt := pNum1_lt s
  have hl2 := Nat.le_trans (pNum_le 1 s) hl
  have h16 : (pRaw 16 (pNum 1 s).2).2.2 = false → (pRaw 16 (pNum 1 s).2).1.length = 16 := fun h => (pRaw_ok h).2.2
  obtain ⟨q, hq⟩ : ∃ q, q = pRaw 16 (pNum 1 s).2 := ⟨_, rfl⟩
  rw [← hq]
  go_enter Try.func194, Try.ntmps194
  go_wp2_with fail
  refine (rd_num (k := 1) (by decide) H hr).mono ?_
  rintro e w2 ⟨v2, rfl, H2, hr2⟩
  clear H hr
  go_wp2_with fail
  refine (rd_raw (k := 16) H2 hr2 hl2).mono ?_
  rintro e w3 ⟨o, v3, rfl, H3, hr3⟩
  clear H2 hr2 hl2 hl
  obtain ⟨n, hn⟩ : ∃ n, n = (pNum 1 s).1 := ⟨_, rfl⟩
  rw [← hn, ← hq] at hcomp
  rw [← hn] at hlt ⊢
  rw [← hq] at h16 H3 hr3
  have HCP := Hid.mk' hcomp
  have HR3 := Hid.mk' hr3
  clear hn hq hcomp hr3
  obtain ⟨out, rest, bad⟩ := q
  simp only at h16 H3 HR3 HCP ⊢
  obtain ⟨m, hm⟩ : ∃ m, m = out.length := ⟨_, rfl⟩
  have hrow := H3.rowRd
  obtain ⟨ao, co, rfl⟩ := hrow.form
  go_wp2_with fail
  refine (rgood_spec H3.swap).mono ?_
  rintro e w4 ⟨rfl, rfl⟩
  cases bad with
  | true =>
    clear h16
    go_wp2_with fail
    refine bodyPost_ret (results_tmp2 rfl _ _ _) rfl ?_
    exact ⟨_, ⟨_, rfl⟩, _, H3.drop, HR3.out, by decide, fun name r h1 h2 => by have := (HCP.out name r h1 h2).2.2; cases this⟩
  | false =>
    have h16 := h16 rfl
    have hB := hrow.bounds
    have H4 := H3.at_len h16
    have hcv := fun (k : Nat) (hk : k ≤ 16) => convStr (RdB.pre hrow k (by omega))
    have hsub := fun (k : Nat) (hk : k ≤ 16) => RdB.sub hrow k 16 co hk (by omega) (by omega) (Nat.le_refl _)
    have hco : 16 ≤ co := by omega
    have HOL := Hid.mk' h16
    simp only [h16]
    clear h16 hrow hB H3 hm
    by_cases hn16 : n ≤ 16
    · have t0 : decide ((16 : Int) < (n : Int)) = false := by simp; omega
      have hcv := hcv n hn16
      have hsub := hsub n hn16
      have i1 : (0 : Int) ≤ (n : Int) := by omega
      have i2 : (n : Int) ≤ (co : Int) := by omega
      have i3 : (n : Int) ≤ 16 := by omega
      go_wp2_with fail
      refine (contains_spec hsub).mono ?_
      rintro e w4 ⟨⟨b, rfl, hb⟩, rfl⟩
      have HB := Hid.mk' hb
      obtain ⟨nm, hnm⟩ : ∃ nm : ByteArray, nm = ⟨(out.take n).toArray⟩ := ⟨_, rfl⟩
      have hns : nm.size ≤ 16 := by
        rw [hnm]
        show (out.take n).toArray.size ≤ 16
        rw [List.size_toArray, List.length_take]; omega
      simp only [← hnm]
      have HNM := Hid.mk' hnm
      have hRR := right_spec (s := nm) (by simp only [maxLen]; omega)
      clear hcv hsub hb hnm
      cases b with
      | true =>
        go_wp2_with fail
        refine bodyPost_ret (results_tmp2 rfl _ _ _) rfl ?_
        refine ⟨_, ⟨_, rfl⟩, _, H4.drop, HR3.out, by decide, fun name r h1 h2 => ?_⟩
        obtain ⟨h3, h4, _⟩ := HCP.out name r h1 h2
        have h5 := HB.out (by
          rw [h4, h3]
          rw [List.drop_left' (strB_sz name)]
          rw [List.all_eq_true]
          intro x hx
          have := List.mem_of_mem_take hx
          rw [List.mem_replicate] at this
          simpa using this.2)
        cases h5
      | false =>
        go_wp2_with fail
        refine (hRR _).mono ?_
        rintro e w5 ⟨rfl, rfl⟩
        cases hok : nameOk nm with
        | true =>
          go_wp2_with fail
          refine bodyPost_ret (results_tmp2 rfl _ _ _) rfl ?_
          refine ⟨_, ⟨_, rfl⟩, _, H4.drop, HR3.out, hns, fun name r h1 h2 => ?_⟩
          obtain ⟨h3, h4, _⟩ := HCP.out name r h1 h2
          rw [HNM.out, h4, h3, List.take_left' (strB_sz name)]
          rfl
        | false =>
          go_wp2_with fail
          refine bodyPost_ret (results_tmp2 rfl _ _ _) rfl ?_
          refine ⟨_, ⟨_, rfl⟩, _, H4.drop, HR3.out, by decide, fun name r h1 h2 => ?_⟩
          obtain ⟨h3, h4, _⟩ := HCP.out name r h1 h2
          have : nm = name := by
            rw [HNM.out, h4, h3, List.take_left' (strB_sz name)]
            rfl
          rw [this, h1] at hok
          cases hok
    · have t0 : decide ((16 : Int) < (n : Int)) = true := by simp; omega
      clear hcv hsub
      go_wp2_with fail
      refine bodyPost_ret (results_tmp2 rfl _ _ _) rfl ?_
      exact ⟨_, ⟨_, rfl⟩, _, H4.drop, HR3.out, by decide, fun name r h1 h2 => by
        have h3 := (HCP.out name r h1 h2).1
        have := nameOk_le h1
        omega⟩
end Sh
/- A range over a function, over what a world holds: a round's regions by their plain walk; what the loop's own book-keeping keeps. -/
set_option linter.unusedVariables false
set_option linter.unusedSimpArgs false
namespace Sh
open Go Go.RowKit Go.Proofs
attribute [local go_sem ↓] Go.wp_at_zero Go.wp_at_succ
set_option maxHeartbeats 1000000
set_option maxRecDepth 100000

/-! ### What a round's operations do -/
def Op.noDefer : Op → Bool
  | .defer _ => false
  | _ => true
theorem noDefer_spec {o : Oper} (h : Sh.Op.noDefer o.op = true) : ∀ c, o.op ≠ .defer c := by
  intro c e; rw [e] at h; cases h
theorem calls_round {l n : Nat} {P : Program} {f : FuncId} {args : Array Value} {w : World} {R : Ending → World → Prop} (h : Calls P f args w R) : CallsIn (Fence.wide.inRound l) n P f args w R :=
  CallsIn.inRound l (callsIn_wide.2 h)
theorem rows_round {l n : Nat} {P : Program} {r : String} {args : Array Value} {w : World} {R : Value → World → Prop} (h : Rows P r args w R) : RowsIn (Fence.wide.inRound l) n P r args w R := by
  intro c cs _
  obtain ⟨v, w', hR, hs⟩ := h c cs
  exact ⟨v, w', hR, by rw [fenced_inRound]; exact stepsIn_wide.2 hs⟩
theorem upon_round {l n : Nat} {P : Program} {o : Oper} {a : Act} {K K' : Act → World → Prop} {Q : Exit → Act → World → Prop} (hK : ∀ a w, K a w → K' a w) : ∀ {r : Result Next}, o.upon P a K Q r → o.uponIn (Fence.wide.inRound l) n P a K' Q r := by
  intro r h
  have hd : (Fence.wide.inRound l).depth.isSome = true → 1 ≤ n := fun h => by cases h
  cases r with
  | ok nx w =>
    cases nx with
    | value v => exact hK _ _ h
    | skip => exact hK _ _ h
    | defer d => exact hK _ _ h
    | enter f args =>
      refine ⟨hd, calls_round (Calls.mono h fun e w' he => ?_)⟩
      cases e with
      | returned v => exact hK _ _ he
      | panicked c => exact he
      | outgrown => exact he
    | row r args => exact ⟨hd, rows_round (Rows.mono h fun v w' he => hK _ _ he)⟩
    | _ => exact h.elim
  | halt x w =>
    cases x with
    | panic v => exact h
    | _ => exact h.elim
theorem list_round {l n : Nat} {P : Program} {ops : Array Oper} {Q : Exit → Act → World → Prop} (hL : ¬ LetsOut Q) : ∀ (os : List Oper), (∀ o ∈ os, Sh.Op.noDefer o.op = true) → ∀ (a : Act) (w : World), wpList P ops Q os a w → wpListIn (Fence.wide.inRound l) n P ops Q os a w
  | [], _, _, _, h => h
  | o :: os, hd, a, w, h => by
    have ih := list_round (l := l) (n := n) (P := P) (ops := ops) hL os (fun x hx => hd x (List.mem_cons_of_mem _ hx))
    unfold wpList at h
    unfold wpListIn
    by_cases hw : Region.wanted o (yielded ops a.tmps) = true
    · rw [if_pos hw] at h ⊢
      rcases h with h | ⟨_, h⟩
      · refine ⟨fun _ _ => trivial, ?_⟩
        rw [Oper.semAt_plain _ _ _ (noDefer_spec (hd o List.mem_cons_self))]
        exact upon_round ih h
      · exact absurd h hL
    · rw [if_neg hw] at h ⊢
      exact ⟨fun _ _ => trivial, ih _ _ h⟩
theorem op_round {l n : Nat} {P : Program} {ops : Array Oper} {Q : Exit → Act → World → Prop} (hL : ¬ LetsOut Q) (hd : ∀ o ∈ ops.toList, Sh.Op.noDefer o.op = true) {i : Nat} {K K' : Act → World → Prop} (hK : ∀ a w, K a w → K' a w) {a : Act} {w : World} (h : wpOp P ops Q i K a w) : wpOpIn (Fence.wide.inRound l) n P ops Q i K' a w := by
  unfold wpOp at h
  unfold wpOpIn
  cases ho : ops[i]? with
  | none => rw [ho] at h; exact hK _ _ h
  | some o =>
    rw [ho] at h
    simp only at h ⊢
    by_cases hw : Region.wanted o (yielded ops a.tmps) = true
    · rw [if_pos hw] at h ⊢
      rcases h with h | ⟨_, h⟩
      · refine ⟨fun _ _ => trivial, ?_⟩
        rw [Oper.semAt_plain _ _ _ (noDefer_spec (hd o (List.mem_of_getElem? (by rw [Array.getElem?_toList]; exact ho))))]
        exact upon_round hK h
      · exact absurd h hL
    · rw [if_neg hw] at h ⊢
      exact ⟨fun _ _ => trivial, hK _ _ h⟩
theorem any_round {l n : Nat} {P : Program} {md : Region.Mode} {ops : Array Oper} {Q : Exit → Act → World → Prop} (hL : ¬ LetsOut Q) (hd : ∀ o ∈ ops.toList, Sh.Op.noDefer o.op = true) : ∀ (fuel : Nat) (listed : Array Bool) (a : Act) (w : World), wpAny P md ops Q fuel listed a w → wpAnyIn (Fence.wide.inRound l) n P md ops Q fuel listed a w
  | 0, _, _, _, h => h
  | fuel + 1, listed, a, w, h => ⟨h.1, fun i hi => op_round hL hd (fun a w h => any_round hL hd fuel _ a w h) (h.2 i hi)⟩
theorem lets_then {K : Act → World → Prop} {Q : Exit → Act → World → Prop} (h : ¬ LetsOut Q) : ¬ LetsOut (Exit.then K Q) := fun ⟨a, w, q⟩ => h ⟨a, w, q⟩
/-- A region in a round, and what follows. -/
theorem seq_round {l n : Nat} {P : Program} {id : Nat} {os : List Oper} {rest : Code} {Q : Exit → Act → World → Prop} {a : Act} {w : World} (hd : os.all (fun o => Sh.Op.noDefer o.op) = true) (hL : ¬ LetsOut Q)
    (h : ∀ K : Act → World → Prop, (∀ a w, rest.wpIn (Fence.wide.inRound l) n P Q a w → K a w) → wpList P os.toArray (Exit.then K Q) os a w) : (Code.seq (Code.region id os.toArray false) rest).wpIn (Fence.wide.inRound l) n P Q a w :=
  wpIn_seq_k fun K hK => wpIn_region_lit (list_round (lets_then hL) os (List.all_eq_true.1 hd) a w (h K hK))
theorem last_round {l n : Nat} {P : Program} {id : Nat} {os : List Oper} {Q : Exit → Act → World → Prop} {a : Act} {w : World} (hd : os.all (fun o => Sh.Op.noDefer o.op) = true) (hL : ¬ LetsOut Q)
    (h : wpList P os.toArray Q os a w) : (Code.region id os.toArray false).wpIn (Fence.wide.inRound l) n P Q a w :=
  wpIn_region_lit (list_round hL os (List.all_eq_true.1 hd) a w h)
theorem draw_round {l n : Nat} {P : Program} {id : Nat} {os : List Oper} {Q : Exit → Act → World → Prop} {a : Act} {w : World} (hm : P.follows .mixedOrders = true) (hd : os.all (fun o => Sh.Op.noDefer o.op) = true) (hL : ¬ LetsOut Q)
    (h : wpAny P .any os.toArray Q os.length (Array.replicate os.length false) a w.drew) : (Code.region id os.toArray true).wpIn (Fence.wide.inRound l) n P Q a w :=
  wpIn_region_any hm (any_round hL (List.all_eq_true.1 hd) _ _ _ _ h)
/-! ### What is owned and is cells -/
def Asrt.celly (L : Asrt) : Prop := ∀ h F, L.on h F → ∀ i, F i → ∃ cs t fr, h i = some (.cells cs t fr)
theorem celly_emp : emp.celly := fun _ _ h i hi => absurd hi (h i)
theorem celly_star {A B : Asrt} (ha : A.celly) (hb : B.celly) : (star A B).celly := by
  rintro h F ⟨F1, F2, a, b, _, e⟩ i hi
  rcases (e i).1 hi with h1 | h1
  · exact ha h F1 a i h1
  · exact hb h F2 b i h1
theorem celly_blk (b : Nat) (cs : Array Value) (t : TypeId) : (blk b cs t).celly := fun h F ⟨a, e⟩ i hi => ⟨cs, t, (0, 0), by rw [(e i).1 hi]; exact a⟩
theorem celly_row (t : TypeId) (size : Nat) (v : Value) (n : Nat) (xs : List Value) : (row t size v n xs).celly := by
  rintro h F ⟨_, c⟩ i hi
  rcases c with ⟨_, _, c⟩ | ⟨g, cap, cur, _, e2, _, _, _, _, e⟩
  · exact absurd hi (c i)
  · exact ⟨cur, t, (0, 0), by rw [(e i).1 hi]; exact e2⟩
theorem celly_ex {α : Type} {A : α → Asrt} (h : ∀ x, (A x).celly) : (ex A).celly := fun hp F ⟨x, hx⟩ => h x hp F hx
theorem celly_bytes : ∀ l, (bytesAll l).celly
  | [] => celly_emp
  | q :: l => celly_star (celly_row _ _ _ _ _) (celly_bytes l)
/-- The loop's book-keeping keeps what is held. -/
theorem Holds.grown {W W' : World} {R : Snap} {L : Asrt} {B : Nat} {r : Option Nat} (H : Holds W R L) (hc : L.celly) (hB : ∀ i o, R.blk i = some o → i < B) (hg : W.grownBy W' r) (hr : ∀ x, r = some x → B ≤ x ∧ ∃ o : Obj, W.heap[x]? = some o ∧ o.isCells = false) : Holds W' R L := by
  obtain ⟨F, hF, hR⟩ := H.own
  refine ⟨hg.os.trans H.os, hg.tape.trans H.tape, hg.output.trans H.output, fun i o hi => ?_, F, L.loc hF fun i hi => ?_, hR⟩
  · have h1 := H.blk i o hi
    rw [hg.block i (Array.getElem?_eq_some_iff.1 h1).1 fun e => by have := (hr i e.symm).1; have := hB i o hi; omega]
    exact h1
  · obtain ⟨cs, t, fr, hcs⟩ := hc _ _ hF i hi
    have h1 : W.heap[i]? = some (.cells cs t fr) := hcs
    exact hg.block i (Array.getElem?_eq_some_iff.1 h1).1 fun e => by
      obtain ⟨_, o, h2, h3⟩ := hr i e.symm
      rw [h1] at h2
      cases h2
      cases h3
theorem Holds.putOther {W : World} {R : Snap} {L : Asrt} {B D : Nat} {o : Obj} (o' : Obj) (H : Holds W R L) (hc : L.celly) (hB : ∀ i o, R.blk i = some o → i < B) (hD : B ≤ D) (h : W.heap[D]? = some o) (ho : o.isCells = false) : Holds (W.putObj D o') R L :=
  H.grown hc hB (grownBy_putObj' W D o') fun x e => by cases e; exact ⟨hD, o, h, ho⟩
theorem Holds.blkLtAll {W : World} {R : Snap} {L : Asrt} (H : Holds W R L) : ∀ i o, R.blk i = some o → i < W.heap.size := fun i o h => (Array.getElem?_eq_some_iff.1 (H.blk i o h)).1
/-- All that is no cells, held as it lies. -/
def Snap.big (R : Snap) (W : World) : Snap := { R with blk := fun i => match R.blk i with
  | some o => some o
  | none => match W.heap[i]? with
    | some o => if o.isCells = true then none else some o
    | none => none }
theorem Snap.le_big (R : Snap) (W : World) : R.le (R.big W) := ⟨rfl, rfl, rfl, fun i o h => by simp only [Snap.big, h]⟩
theorem Holds.big {W : World} {R : Snap} {L : Asrt} (H : Holds W R L) (hc : L.celly) : Holds W (R.big W) L := by
  obtain ⟨F, hF, hR⟩ := H.own
  refine ⟨H.os, H.tape, H.output, fun i o hi => ?_, F, hF, fun i hi => ?_⟩
  · simp only [Snap.big] at hi
    cases h : R.blk i with
    | some x => rw [h] at hi; cases hi; exact H.blk i _ h
    | none =>
      rw [h] at hi
      cases h2 : W.heap[i]? with
      | none => rw [h2] at hi; cases hi
      | some x =>
        rw [h2] at hi
        simp only at hi
        split at hi
        · cases hi
        · exact hi
  · obtain ⟨cs, t, fr, hcs⟩ := hc _ _ hF i hi
    have h1 : W.heap[i]? = some (.cells cs t fr) := hcs
    simp only [Snap.big, hR i hi, h1]
    rfl
theorem Snap.big_at {R : Snap} {W : World} {i : Nat} {o : Obj} (h : W.heap[i]? = some o) (ho : o.isCells = false) (hR : ∀ x, R.blk i = some x → W.heap[i]? = some x) : (R.big W).blk i = some o := by
  simp only [Snap.big]
  cases h2 : R.blk i with
  | some x => rw [hR x h2] at h; exact h
  | none => simp only [h, ho]; rfl
theorem keeps_of {W W' : World} {R R' : Snap} {L L' : Asrt} (H : Holds W R L) (H' : Holds W' R' L') (hle : (R.big W).le R') (hs : W.heap.size ≤ W'.heap.size) : KeepsOthers W W' :=
  ⟨hs, fun k o hk ho => H'.blk k o (hle.blk k o (Snap.big_at hk ho fun x hx => H.blk k x hx))⟩
/-- A range over a function: what is held before a round is held behind it. -/
theorem wp_range {α β : Type} {P : Program} {g : Operand} {ps : Array Tmp} {assign body : Code} {Q : Exit → Act → World → Prop} {a : Act} {w : World}
    {gf c : Nat} {lb : Array Value} (hg : a.eval g = .func (.func gf) #[] lb) (eg : ∀ args w, (callFunc gf args).run P w = .ok (.enter gf args) w)
    {encs : α → Array Value} {S : List α → Prop} {N : Nat} (hseq : SeqStopsK Fence.wide 2 P gf lb encs (fun W W' => W'.heap[c]? = W.heap[c]?) S (fun _ => True) N w) (hps : ∀ x, (encs x).size = ps.size)
    {R0 : Snap} {A : β → Asrt} (φ : List α → β → Prop) (hc : ∃ o, R0.blk c = some o) (hcy : ∀ b, (A b).celly) (b0 : β) (h0 : φ [] b0) (H0 : Holds w R0 (A b0)) (fa : Act → α → Act)
    (hassign : ∀ (l : Nat) (x : α) (W : World) (K : Act → World → Prop), K (fa a x) W →
      assign.wpIn (Fence.wide.inRound l) 1 P (Exit.then K (fun _ _ _ => False)) { tmps := (ps.zip (encs x)).foldl (fun t (p, v) => t.setIfInBounds p v) a.tmps, defers := [] } W)
    (hbody : ∀ (l : Nat) (pre : List α) (x : α) (b : β) (W : World), φ pre b → pre.length < N → Holds W (R0.big W) (A b) →
      body.wpIn (Fence.wide.inRound l) 1 P (fun e _ W' => e = .normal ∧ ∃ b' R', (R0.big W).le R' ∧ W.heap.size ≤ W'.heap.size ∧ φ (pre ++ [x]) b' ∧ Holds W' R' (A b')) (fa a x) W)
    (hdone : ∀ (D : Nat) (xs : List α) (b : β) (W : World), S xs → φ xs b → Holds W R0 (A b) → (∀ o', Holds (W.putObj D o') R0 (A b)) → W.heap[D]? = some (.deferred (some [])) → Q .normal { a with defers := { target := .collected D, args := #[] } :: a.defers } W) :
    (Code.rangeFunc g ps assign body).wp P Q a w := by
  obtain ⟨oc, hoc⟩ := hc
  have hB := H0.blkLtAll
  have hcw : c < w.heap.size := hB c oc hoc
  refine (wpIn_wide (n := 3)).1 (wpIn_rangeFunc_ownF (F := Fence.wide) (n := 3) rfl (by decide) (gf := gf) (lb := lb) hg trivial eg hseq (fun h k => k.trans h) (fun W l o o' hl _ _ _ => World.putObj_heap_other (by omega)) (Below.refl _ _) hps
    (fun pre W => ∃ b, φ pre b ∧ Holds W R0 (A b)) (fun _ _ _ => False) ?_ (fun _ _ _ _ _ h _ _ => h) ⟨b0, h0, H0⟩ (fun x => fa a x) hassign ?_ ?_ ?_)
  · rintro pre W W' row ⟨b, hb, H⟩ hg hr
    exact ⟨b, hb, H.grown (hcy b) hB hg hr⟩
  · rintro l pre x W ⟨b, hb, H⟩ hN
    refine wpIn_mono (hbody l pre x b W hb hN (H.big (hcy b))) ?_
    rintro e a' W' ⟨rfl, b', R', hle, hs, hb', H'⟩
    exact ⟨keeps_of H H' hle hs, (H'.blk c oc ((R0.le_big W).trans hle |>.blk c oc hoc)).trans (H.blk c oc hoc).symm, b', hb', H'.weaken ((R0.le_big W).trans hle)⟩
  · rintro D xs W hD hS ⟨b, hb, H⟩ hK
    exact hdone D xs b W hS hb H (fun o' => H.putOther o' (hcy b) hB hD hK rfl) hK
  · rintro D c' pre W _ _ h
    exact h.elim
theorem lets_normal {α β : Type} {R : Exit → Act → World → Prop} {T : World → Prop} : ¬ LetsOut (fun e (_ : Act) W' => e = .normal ∧ T W') := fun ⟨_, _, h, _⟩ => by cases h
end Sh
/- bytes.Equal. -/
set_option linter.unusedVariables false
set_option linter.unusedSimpArgs false
namespace Sh
open Go Go.RowKit Go.Proofs
attribute [local go_sem ↓] Go.wp_at_zero Go.wp_at_succ
set_option maxHeartbeats 1000000
set_option maxRecDepth 100000

theorem bytesEqual_spec {w : World} {u v : Value} {l k : List UInt8} (hu : RdB w.cell? u l) (hv : RdB w.cell? v k) :
    Calls Try.prog 124 #[u, v] w fun e w' => e = .returned (.bool (decide (l = k))) ∧ w = w' := by
  have c1 := convStr hu
  have c2 := convStr hv
  go_enter Try.func124, Try.ntmps124
  go_wp2_with fail
  go_ret
  exact ⟨ret_bool (by rw [Bool.eq_iff_iff]; simp), rfl⟩
end Sh
