/- MsgRPut EntRCheck EntText Range RangeMut: joined texts, each with its own sentence below. -/
import Derived.Test.YtmogagcffebbaaaJd8
import Derived.Test.YtmogagcffebbaaaJd3
import Derived.BigQuiet
import Derived.Test.YtmogagcffebbaaaJd2
import Derived.RangeFuncFrom
import Derived.RangeFuncLeaves
import Derived.RangeFuncCalls
import Derived.OwnWalkIn
/- sherdref25.Put. -/
set_option linter.unusedVariables false
set_option linter.unusedSimpArgs false
namespace Sh
open Go Go.RowKit Go.Proofs
attribute [local go_sem ↓] Go.wp_at_zero Go.wp_at_succ
set_option maxHeartbeats 1000000
set_option maxRecDepth 100000

theorem nb_byte {n : Int} (h0 : 0 ≤ n) : nb 1 n = [UInt8.ofNat n.toNat] := by
  obtain ⟨k, rfl⟩ := Int.eq_ofNat_of_zero_le h0
  rw [nb_one]; simp
set_option maxHeartbeats 8000000
theorem rmput_ok {w : World} {R : Snap} {L : Asrt} (m : Ms) (H : Holds w R L) (hm : m.Rd R.cell?) (hz : m.Sz) (hok : msgOk m = true) :
    Calls Try.prog 57 #[.agg m.cells.toArray] w fun e w' => ∃ o, e = .returned o ∧ Holds w' R (star (rowB o (putM m)) L) := by
  have HM := Hid.mk' hm
  have HZ := Hid.mk' hz
  have HOK := Hid.mk' hok
  have hk := hok
  simp only [msgOk, Bool.and_eq_true, decide_eq_true_eq, Bool.or_eq_true] at hk
  obtain ⟨⟨⟨⟨⟨⟨⟨⟨⟨⟨k1, k2⟩, k3⟩, k4⟩, k5⟩, k6⟩, k7⟩, k8⟩, k9⟩, k10⟩, k11⟩ := hk
  have f1 := inAll_mem k4 (x := m.from_) (by simp)
  have f2 := inAll_mem k4 (x := m.to_) (by simp)
  have f3 := inAll_mem k5 (x := m.ballot) (by simp)
  have f4 := inAll_mem k5 (x := m.attempt) (by simp)
  have f5 := inAll_mem k5 (x := m.epoch) (by simp)
  have f6 := inAll_mem k5 (x := m.mark) (by simp)
  have f7 := inAll_mem k7 (x := m.size) (by simp)
  have f8 := inAll_mem k7 (x := (m.data.length : Int)) (by simp)
  have f9 := inAll_mem k8 (x := m.what) (by simp)
  have f10 := inAll_mem k8 (x := (m.who.length : Int)) (by simp)
  obtain ⟨kind, from_, to_, ballot, name, attempt, epoch, mark, size, what, vw, vn, vd, who, names, data⟩ := m
  obtain ⟨hw, hn, hd⟩ := hm
  obtain ⟨z1, z2, z3, z4, z5⟩ := hz
  simp only at z1 z2 z3 z4 z5 hw hn hd
  obtain ⟨aw, cw, rfl⟩ := hw.form
  obtain ⟨an, cn, rfl⟩ := hn.form
  obtain ⟨ad, cd, rfl⟩ := hd.form
  simp only at k1 k2 k6 k9 k10 k11 f1 f2 f3 f4 f5 f6 f7 f8 f9 f10
  obtain ⟨R1, le1, H1, hb⟩ := H.allocR (.cells #[.int .i64 kind, .int .i64 from_, .int .i64 to_, .int .i64 ballot, .string name, .int .i64 attempt, .int .i64 epoch, .int .i64 mark, .int .i64 size, .int .i64 what, .slice aw who.length cw, .slice an names.length cn, .slice ad data.length cd] tMsg (0, 0))
  have HW := Hid.mk' (Rd.le hw le1)
  have HN := Hid.mk' (Rd.le hn le1)
  have HD := Hid.mk' (Rd.le hd le1)
  have K6 := Hid.mk' k6
  have K10 := Hid.mk' k10
  have LE := Hid.mk' le1
  clear hw hn hd hok H k3 k4 k5 k7 k8 k6 k10 le1
  obtain ⟨l1, n1, c1⟩ := Holds.frzFacts (H1) hb
  show Calls _ _ #[.agg #[.int .i64 kind, .int .i64 from_, .int .i64 to_, .int .i64 ballot, .string name, .int .i64 attempt, .int .i64 epoch, .int .i64 mark, .int .i64 size, .int .i64 what, .slice aw who.length cw, .slice an names.length cn, .slice ad data.length cd]] _ _
  go_enter Try.func57, Try.ntmps57
  go_upto_region 2 with fail
  have hk8 : ((UInt8.ofNat kind.toNat).toNat : Int) = kind := by
    rw [UInt8.toNat_ofNat']; omega
  have H2 := H1.alloc #[.int .u8 77, .int .u8 kind] tU8
  have H3 := blkB (n := 2) H2 [77, UInt8.ofNat kind.toNat] (by
    show [Value.int .u8 77, Value.int .u8 kind] = [Value.int .u8 ((77 : UInt8).toNat : Int), Value.int .u8 ((UInt8.ofNat kind.toNat).toNat : Int)]
    rw [hk8]; rfl) rfl (by simp)
  clear hk8
  have eT : [77, UInt8.ofNat kind.toNat] = nb 1 77 ++ nb 1 kind := by rw [nb_byte (by omega), nb_byte (by omega)]; rfl
  rw [eT] at H3
  obtain ⟨T0, hT⟩ : ∃ T0, T0 = nb 1 77 ++ nb 1 kind := ⟨_, rfl⟩
  have hl : T0.length ≤ 2 := by rw [hT]; simp [nb_length, wid_1]
  rw [← hT] at H3
  have HT0 := Hid.mk' hT
  clear hT H1 H2 l1 n1 c1 eT
  rw [World.size_alloc] at H3
  generalize (World.alloc ..) = w3 at H3 ⊢
  generalize (w.heap.size + 1) = g3 at H3 ⊢
  obtain ⟨l1, n1, c1⟩ := Holds.frzFacts (H3) hb
  go_wp2_with fail
  refine (refnum_spec (k := 2) (n := from_) H3 (by omega)).mono ?_
  rintro e w4 ⟨o, rfl, H4⟩
  obtain ⟨ao, co, rfl⟩ := H4.rowRd.form
  have hrd : RdB w4.cell? (.slice ao (nb 2 from_).length co) (nb 2 from_) := H4.rowRd
  have hlk : (nb 2 from_).length ≤ 256 := by rw [nb_length, wid_2]; omega
  have H6 : Holds w4 R1 (star (rowB _ T0) (star (rowB _ (nb 2 from_)) L)) := H4.swap
  clear H3 l1 n1 c1
  go_wp2_with (with_reducible refine stop_append ?_)
  refine Hold.go (wpList_appendB (l := T0) (k := nb 2 from_) rfl _ _ rfl rfl rfl H6 hrd (by have h9 := hlk; omega) ?_)
  intro v5 w5 H5
  obtain ⟨T1, hT⟩ : ∃ T, T = T0 ++ nb 2 from_ := ⟨_, rfl⟩
  have hl1 : T1.length ≤ 6 := by rw [hT, List.length_append]; rw [nb_length]; simp only [wid_1, wid_2, wid_4]; omega
  rw [← hT] at H5
  have HT1 := Hid.mk' hT
  have H3 := H5.drop2
  clear hT hrd hlk H4 H6 H5 hl
  go_upto_region 3 with fail
  obtain ⟨l1, n1, c1⟩ := Holds.frzFacts (H3) hb
  go_wp2_with fail
  refine (refnum_spec (k := 2) (n := to_) H3 (by omega)).mono ?_
  rintro e w4 ⟨o, rfl, H4⟩
  obtain ⟨ao, co, rfl⟩ := H4.rowRd.form
  have hrd : RdB w4.cell? (.slice ao (nb 2 to_).length co) (nb 2 to_) := H4.rowRd
  have hlk : (nb 2 to_).length ≤ 256 := by rw [nb_length, wid_2]; omega
  have H6 : Holds w4 R1 (star (rowB _ T1) (star (rowB _ (nb 2 to_)) L)) := H4.swap
  clear H3 l1 n1 c1
  go_wp2_with (with_reducible refine stop_append ?_)
  refine Hold.go (wpList_appendB (l := T1) (k := nb 2 to_) rfl _ _ rfl rfl rfl H6 hrd (by have h9 := hlk; omega) ?_)
  intro v5 w5 H5
  obtain ⟨T2, hT⟩ : ∃ T, T = T1 ++ nb 2 to_ := ⟨_, rfl⟩
  have hl2 : T2.length ≤ 10 := by rw [hT, List.length_append]; rw [nb_length]; simp only [wid_1, wid_2, wid_4]; omega
  rw [← hT] at H5
  have HT2 := Hid.mk' hT
  have H3 := H5.drop2
  clear hT hrd hlk H4 H6 H5 hl1
  go_upto_region 4 with fail
  obtain ⟨l1, n1, c1⟩ := Holds.frzFacts (H3) hb
  go_wp2_with fail
  refine (refnum_spec (k := 4) (n := ballot) H3 (by omega)).mono ?_
  rintro e w4 ⟨o, rfl, H4⟩
  obtain ⟨ao, co, rfl⟩ := H4.rowRd.form
  have hrd : RdB w4.cell? (.slice ao (nb 4 ballot).length co) (nb 4 ballot) := H4.rowRd
  have hlk : (nb 4 ballot).length ≤ 256 := by rw [nb_length, wid_4]; omega
  have H6 : Holds w4 R1 (star (rowB _ T2) (star (rowB _ (nb 4 ballot)) L)) := H4.swap
  clear H3 l1 n1 c1
  go_wp2_with (with_reducible refine stop_append ?_)
  refine Hold.go (wpList_appendB (l := T2) (k := nb 4 ballot) rfl _ _ rfl rfl rfl H6 hrd (by have h9 := hlk; omega) ?_)
  intro v5 w5 H5
  obtain ⟨T3, hT⟩ : ∃ T, T = T2 ++ nb 4 ballot := ⟨_, rfl⟩
  have hl3 : T3.length ≤ 14 := by rw [hT, List.length_append]; rw [nb_length]; simp only [wid_1, wid_2, wid_4]; omega
  rw [← hT] at H5
  have HT3 := Hid.mk' hT
  have H3 := H5.drop2
  clear hT hrd hlk H4 H6 H5 hl2
  go_upto_region 5 with fail
  obtain ⟨l1, n1, c1⟩ := Holds.frzFacts (H3) hb
  obtain ⟨a9, c9, w9, hconv, R2, le2, H9, hs9⟩ := convBytes H3 z1
  go_wp2_with fail
  have hlen9 : (strB name).length ≤ 16 := by
    rw [strB_len]
    rcases k11 with k | k
    · omega
    · exact nameOk_len k
  refine (reftext_spec H9 hs9 (by omega)).mono ?_
  rintro e w4 ⟨o, rfl, H4⟩
  replace H4 : Holds w4 R2 (star (rowB o (txS name)) _) := H4
  replace hb := le2.blk _ _ hb
  have hlt9 : (txS name).length ≤ 256 := tx_len _
  clear hconv hs9
  obtain ⟨ao, co, rfl⟩ := H4.rowRd.form
  have hrd : RdB w4.cell? (.slice ao (txS name).length co) (txS name) := H4.rowRd
  have hlk : (txS name).length ≤ 256 := hlt9
  have H6 : Holds w4 R2 (star (rowB _ T3) (star (rowB _ (txS name)) L)) := H4.swap
  clear H3 l1 n1 c1
  go_wp2_with (with_reducible refine stop_append ?_)
  refine Hold.go (wpList_appendB (l := T3) (k := txS name) rfl _ _ rfl rfl rfl H6 hrd (by have h9 := hlk; omega) ?_)
  intro v5 w5 H5
  obtain ⟨T4, hT⟩ : ∃ T, T = T3 ++ txS name := ⟨_, rfl⟩
  have hl4 : T4.length ≤ 270 := by rw [hT, List.length_append]; omega
  rw [← hT] at H5
  have HT4 := Hid.mk' hT
  have H3 := H5.drop2
  clear hT hrd hlk H4 H6 H5 hl3
  go_upto_region 6 with fail
  obtain ⟨l1, n1, c1⟩ := Holds.frzFacts (H3) hb
  go_wp2_with fail
  refine (refnum_spec (k := 4) (n := attempt) H3 (by omega)).mono ?_
  rintro e w4 ⟨o, rfl, H4⟩
  obtain ⟨ao, co, rfl⟩ := H4.rowRd.form
  have hrd : RdB w4.cell? (.slice ao (nb 4 attempt).length co) (nb 4 attempt) := H4.rowRd
  have hlk : (nb 4 attempt).length ≤ 256 := by rw [nb_length, wid_4]; omega
  have H6 : Holds w4 R2 (star (rowB _ T4) (star (rowB _ (nb 4 attempt)) L)) := H4.swap
  clear H3 l1 n1 c1
  go_wp2_with (with_reducible refine stop_append ?_)
  refine Hold.go (wpList_appendB (l := T4) (k := nb 4 attempt) rfl _ _ rfl rfl rfl H6 hrd (by have h9 := hlk; omega) ?_)
  intro v5 w5 H5
  obtain ⟨T5, hT⟩ : ∃ T, T = T4 ++ nb 4 attempt := ⟨_, rfl⟩
  have hl5 : T5.length ≤ 274 := by rw [hT, List.length_append]; rw [nb_length]; simp only [wid_1, wid_2, wid_4]; omega
  rw [← hT] at H5
  have HT5 := Hid.mk' hT
  have H3 := H5.drop2
  clear hT hrd hlk H4 H6 H5 hl4
  go_upto_region 7 with fail
  obtain ⟨l1, n1, c1⟩ := Holds.frzFacts (H3) hb
  go_wp2_with fail
  refine (refnum_spec (k := 4) (n := epoch) H3 (by omega)).mono ?_
  rintro e w4 ⟨o, rfl, H4⟩
  obtain ⟨ao, co, rfl⟩ := H4.rowRd.form
  have hrd : RdB w4.cell? (.slice ao (nb 4 epoch).length co) (nb 4 epoch) := H4.rowRd
  have hlk : (nb 4 epoch).length ≤ 256 := by rw [nb_length, wid_4]; omega
  have H6 : Holds w4 R2 (star (rowB _ T5) (star (rowB _ (nb 4 epoch)) L)) := H4.swap
  clear H3 l1 n1 c1
  go_wp2_with (with_reducible refine stop_append ?_)
  refine Hold.go (wpList_appendB (l := T5) (k := nb 4 epoch) rfl _ _ rfl rfl rfl H6 hrd (by have h9 := hlk; omega) ?_)
  intro v5 w5 H5
  obtain ⟨T6, hT⟩ : ∃ T, T = T5 ++ nb 4 epoch := ⟨_, rfl⟩
  have hl6 : T6.length ≤ 278 := by rw [hT, List.length_append]; rw [nb_length]; simp only [wid_1, wid_2, wid_4]; omega
  rw [← hT] at H5
  have HT6 := Hid.mk' hT
  have H3 := H5.drop2
  clear hT hrd hlk H4 H6 H5 hl5
  go_upto_region 8 with fail
  obtain ⟨l1, n1, c1⟩ := Holds.frzFacts (H3) hb
  go_wp2_with fail
  refine (refnum_spec (k := 4) (n := mark) H3 (by omega)).mono ?_
  rintro e w4 ⟨o, rfl, H4⟩
  obtain ⟨ao, co, rfl⟩ := H4.rowRd.form
  have hrd : RdB w4.cell? (.slice ao (nb 4 mark).length co) (nb 4 mark) := H4.rowRd
  have hlk : (nb 4 mark).length ≤ 256 := by rw [nb_length, wid_4]; omega
  have H6 : Holds w4 R2 (star (rowB _ T6) (star (rowB _ (nb 4 mark)) L)) := H4.swap
  clear H3 l1 n1 c1
  go_wp2_with (with_reducible refine stop_append ?_)
  refine Hold.go (wpList_appendB (l := T6) (k := nb 4 mark) rfl _ _ rfl rfl rfl H6 hrd (by have h9 := hlk; omega) ?_)
  intro v5 w5 H5
  obtain ⟨T7, hT⟩ : ∃ T, T = T6 ++ nb 4 mark := ⟨_, rfl⟩
  have hl7 : T7.length ≤ 282 := by rw [hT, List.length_append]; rw [nb_length]; simp only [wid_1, wid_2, wid_4]; omega
  rw [← hT] at H5
  have HT7 := Hid.mk' hT
  have H3 := H5.drop2
  clear hT hrd hlk H4 H6 H5 hl6
  go_upto_region 9 with fail
  obtain ⟨l1, n1, c1⟩ := Holds.frzFacts (H3) hb
  go_wp2_with fail
  refine (refnum_spec (k := 2) (n := size) H3 (by omega)).mono ?_
  rintro e w4 ⟨o, rfl, H4⟩
  obtain ⟨ao, co, rfl⟩ := H4.rowRd.form
  have hrd : RdB w4.cell? (.slice ao (nb 2 size).length co) (nb 2 size) := H4.rowRd
  have hlk : (nb 2 size).length ≤ 256 := by rw [nb_length, wid_2]; omega
  have H6 : Holds w4 R2 (star (rowB _ T7) (star (rowB _ (nb 2 size)) L)) := H4.swap
  clear H3 l1 n1 c1
  go_wp2_with (with_reducible refine stop_append ?_)
  refine Hold.go (wpList_appendB (l := T7) (k := nb 2 size) rfl _ _ rfl rfl rfl H6 hrd (by have h9 := hlk; omega) ?_)
  intro v5 w5 H5
  obtain ⟨T8, hT⟩ : ∃ T, T = T7 ++ nb 2 size := ⟨_, rfl⟩
  have hl8 : T8.length ≤ 286 := by rw [hT, List.length_append]; rw [nb_length]; simp only [wid_1, wid_2, wid_4]; omega
  rw [← hT] at H5
  have HT8 := Hid.mk' hT
  have H3 := H5.drop2
  clear hT hrd hlk H4 H6 H5 hl7
  go_upto_region 10 with fail
  obtain ⟨l1, n1, c1⟩ := Holds.frzFacts (H3) hb
  go_wp2_with (with_reducible refine stop_append ?_)
  have hk8 : ((UInt8.ofNat what.toNat).toNat : Int) = what := by
    rw [UInt8.toNat_ofNat']; omega
  have hk9 : ((UInt8.ofNat (who.length : Int).toNat).toNat : Int) = (who.length : Int) := by
    rw [UInt8.toNat_ofNat']; omega
  have H4 := H3.alloc #[.int .u8 what, .int .u8 (who.length : Int)] tU8
  have H5 := blkB (n := 2) H4 [UInt8.ofNat what.toNat, UInt8.ofNat (who.length : Int).toNat] (by
    show [Value.int .u8 what, Value.int .u8 (who.length : Int)] = [Value.int .u8 ((UInt8.ofNat what.toNat).toNat : Int), Value.int .u8 ((UInt8.ofNat (who.length : Int).toNat).toNat : Int)]
    rw [hk8, hk9]) rfl (by simp)
  have eT : [UInt8.ofNat what.toNat, UInt8.ofNat (who.length : Int).toNat] = nb 1 what ++ nb 1 (who.length : Int) := by rw [nb_byte (by omega), nb_byte (by omega)]; rfl
  rw [eT] at H5
  have hlk : (nb 1 what ++ nb 1 (who.length : Int)).length = 2 := by rw [← eT]; rfl
  have hrd : RdB _ _ (nb 1 what ++ nb 1 (who.length : Int)) := H5.rowRd
  clear hk8 hk9 eT H3 H4
  refine Hold.go (wpList_appendB (l := T8) (k := nb 1 what ++ nb 1 (who.length : Int)) rfl _ _ rfl rfl rfl H5.swap hrd (by omega) ?_)
  intro v5 w5 H6
  clear l1 n1 c1
  obtain ⟨T9, hT⟩ : ∃ T, T = T8 ++ (nb 1 what ++ nb 1 (who.length : Int)) := ⟨_, rfl⟩
  have hl9 : T9.length ≤ 1000 := by rw [hT, List.length_append]; omega
  rw [← hT] at H6
  have HT9 := Hid.mk' hT
  have H3 := H6.drop2
  clear hT hrd hlk H5 H6 hl8
  go_upto_region 11 with fail
  go_wp2_with fail
  go_loopw [3, 4] (fun o i wx => ∃ j : Nat, i = .int .i64 j ∧ j ≤ who.length ∧ Holds wx R2 (star (rowB o (T9 ++ (who.take j).flatMap (nb 4))) L)) (fun _ i _ => who.length - (intOf i).toNat)
  case atStart => exact ⟨0, rfl, Nat.zero_le _, by simpa using H3⟩
  case round =>
    clear H3
    obtain ⟨j, rfl, hj, H4⟩ := hrel
    obtain ⟨l1, n1, c1⟩ := Holds.frzFacts (H4) hb
    by_cases hlt : j < who.length
    · obtain ⟨b1, o1, ha, hc⟩ := rdI_at (Rd.world (Rd.le HW.out le2) H4) hlt
      subst ha
      have hx := (inAll_mem K6.out (List.getElem_mem hlt)).2
      have hs : Hid ((who.take (j + 1)).flatMap (nb 4) = (who.take j).flatMap (nb 4) ++ nb 4 (who[j])) := Hid.mk' (by
        rw [List.take_succ_eq_append_getElem hlt, List.flatMap_append]; simp)
      have hl10 : (T9 ++ (who.take j).flatMap (nb 4)).length ≤ 1000000 := by
        rw [List.length_append, flatB_len (k := 4) (fun x => by rw [nb_length, wid_4]), List.length_take]; omega
      generalize who[j] = x at hc hx hs
      go_wp2_with fail
      refine (refnum_spec (k := 4) (n := x) H4 (by omega)).mono ?_
      rintro e w5 ⟨o5, rfl, H5⟩
      obtain ⟨ao, co, rfl⟩ := H5.rowRd.form
      have hrd : RdB w5.cell? (.slice ao (nb 4 x).length co) (nb 4 x) := H5.rowRd
      have hlk : (nb 4 x).length = 4 := by rw [nb_length, wid_4]
      have H6 := H5.swap
      clear H4 l1 n1 c1
      go_wp2_with (with_reducible refine stop_append ?_)
      refine Hold.go (wpList_appendB (l := T9 ++ (who.take j).flatMap (nb 4)) (k := nb 4 x) rfl _ _ rfl rfl rfl H6 hrd (by omega) ?_)
      intro v7 w7 H7
      go_wp2_with fail
      go_roundw
      case rel => exact ⟨j + 1, by go_num, hlt, by rw [hs.out, ← List.append_assoc]; exact H7.drop2⟩
      case measure => simp [intOf]; omega
    · obtain rfl : j = who.length := by omega
      rw [List.take_length] at H4
      obtain ⟨T10, hT⟩ : ∃ T, T = T9 ++ who.flatMap (nb 4) := ⟨_, rfl⟩
      have hl10 : T10.length ≤ 3000 := by
        rw [hT, List.length_append, flatB_len (k := 4) (fun x => by rw [nb_length, wid_4])]; omega
      rw [← hT] at H4
      have HT10 := Hid.mk' hT
      clear hT hl9
      go_wp2_with (with_reducible refine stop_append ?_)
      have hk9 : ((UInt8.ofNat names.length).toNat : Int) = (names.length : Int) := by
        rw [UInt8.toNat_ofNat']; omega
      have H5 := H4.alloc #[.int .u8 (names.length : Int)] tU8
      have H6 := blkB (n := 1) H5 [UInt8.ofNat names.length] (by
        show [Value.int .u8 (names.length : Int)] = [Value.int .u8 ((UInt8.ofNat names.length).toNat : Int)]
        rw [hk9]) rfl (by simp)
      rw [← nb_one] at H6
      have hlk : (nb 1 (names.length : Int)).length = 1 := by rw [nb_length, wid_1]
      have hrd : RdB _ _ (nb 1 (names.length : Int)) := H6.rowRd
      clear hk9 H4 H5
      refine Hold.go (wpList_appendB (l := T10) (k := nb 1 (names.length : Int)) rfl _ _ rfl rfl rfl H6.swap hrd (by omega) ?_)
      intro v7 w7 H7
      clear l1 n1 c1
      obtain ⟨T11, hT⟩ : ∃ T, T = T10 ++ nb 1 (names.length : Int) := ⟨_, rfl⟩
      have hl11 : T11.length ≤ 3001 := by rw [hT, List.length_append]; omega
      rw [← hT] at H7
      have HT11 := Hid.mk' hT
      have H3 := H7.drop2
      clear hT hrd hlk H6 H7 hl10
      go_wp2_with fail
      go_loopw [3, 5] (fun o i wx => ∃ (j : Nat) (R3 : Snap), i = .int .i64 j ∧ j ≤ names.length ∧ R2.le R3 ∧ Holds wx R3 (star (rowB o (T11 ++ (names.take j).flatMap txS)) L)) (fun _ i _ => names.length - (intOf i).toNat)
      case atStart => exact ⟨0, R2, rfl, Nat.zero_le _, Snap.le.refl _, by simpa using H3⟩
      case round =>
        clear H3
        obtain ⟨j, R3, rfl, hj, le3, H4⟩ := hrel
        have hb3 := le3.blk _ _ hb
        obtain ⟨l1, n1, c1⟩ := Holds.frzFacts (H4) hb3
        by_cases hlt : j < names.length
        · obtain ⟨b1, o1, ha, hc⟩ := rdS_at (Rd.world (Rd.le (Rd.le HN.out le2) le3) H4) hlt
          subst ha
          have hx16 := nameOk_len (List.all_eq_true.1 K10.out _ (List.getElem_mem hlt))
          have hxm := z2 _ (List.getElem_mem hlt)
          have hs : Hid ((names.take (j + 1)).flatMap txS = (names.take j).flatMap txS ++ txS (names[j])) := Hid.mk' (by
            rw [List.take_succ_eq_append_getElem hlt, List.flatMap_append]; simp)
          have hl12 : (T11 ++ (names.take j).flatMap txS).length ≤ 900000 := by
            rw [List.length_append]
            have := txs_len K10.out j
            omega
          generalize names[j] = x at hc hx16 hxm hs
          obtain ⟨a9, c9, w22, hconv, R4, le4, H5, hs22⟩ := convBytes H4 hxm
          go_wp2_with fail
          refine (reftext_spec H5 hs22 (by rw [strB_len]; omega)).mono ?_
          rintro e w6 ⟨o6, rfl, H6⟩
          replace H6 : Holds w6 R4 (star (rowB o6 (txS x)) _) := H6
          obtain ⟨ao, co, rfl⟩ := H6.rowRd.form
          have hrd : RdB w6.cell? (.slice ao (txS x).length co) (txS x) := H6.rowRd
          have hlk : (txS x).length ≤ 256 := tx_len _
          have H7 := H6.swap
          clear H4 H5 l1 n1 c1 hconv
          go_wp2_with (with_reducible refine stop_append ?_)
          refine Hold.go (wpList_appendB (l := T11 ++ (names.take j).flatMap txS) (k := txS x) rfl _ _ rfl rfl rfl H7 hrd (by omega) ?_)
          intro v8 w8 H8
          go_wp2_with fail
          go_roundw
          case rel => exact ⟨j + 1, R4, by go_num, hlt, le3.trans le4, by rw [hs.out, ← List.append_assoc]; exact H8.drop2⟩
          case measure => simp [intOf]; omega
        · obtain rfl : j = names.length := by omega
          rw [List.take_length] at H4
          have hl12 : (T11 ++ names.flatMap txS).length ≤ 900000 := by
            rw [List.length_append]
            have := txs_len K10.out names.length
            rw [List.take_length] at this
            omega
          go_wp2_with fail
          refine (reftext_spec H4 (Rd.le (Rd.le HD.out le2) le3) z5).mono ?_
          rintro e w6 ⟨o6, rfl, H6⟩
          replace H6 : Holds w6 R3 (star (rowB o6 (tx data)) _) := H6
          obtain ⟨ao, co, rfl⟩ := H6.rowRd.form
          have hrd : RdB w6.cell? (.slice ao (tx data).length co) (tx data) := H6.rowRd
          have hlk : (tx data).length ≤ 256 := tx_len _
          have H7 := H6.swap
          clear H4 l1 n1 c1
          go_wp2_with (with_reducible refine stop_append ?_)
          refine Hold.go (wpList_appendB (l := T11 ++ names.flatMap txS) (k := tx data) rfl _ _ rfl rfl rfl H7 hrd (by omega) ?_)
          intro v8 w8 H8
          have e24 : T11 ++ names.flatMap txS ++ tx data = bodyB (⟨kind, from_, to_, ballot, name, attempt, epoch, mark, size, what, .slice aw who.length cw, .slice an names.length cn, .slice ad data.length cd, who, names, data⟩ : Ms) := by
            rw [HT11.out, HT10.out, HT9.out, HT8.out, HT7.out, HT6.out, HT5.out, HT4.out, HT3.out, HT2.out, HT1.out, HT0.out]
            simp only [bodyB, bodyS, List.append_assoc, List.append_nil]
          have hbl : (bodyB (⟨kind, from_, to_, ballot, name, attempt, epoch, mark, size, what, .slice aw who.length cw, .slice an names.length cn, .slice ad data.length cd, who, names, data⟩ : Ms)).length ≤ 1000000 := by have := body_len HOK.out; omega
          rw [e24] at H8
          obtain ⟨R9, le9, H9, hr9⟩ := H8.drop2.freezeRow
          clear e24 hrd hlk H6 H7 H8
          go_wp2_with fail
          refine (cseal_ref H9 hr9 hbl).mono ?_
          rintro e w10 ⟨o, rfl, H10⟩
          go_wp2_with fail
          go_ret
          exact ⟨o, rfl, H10.weaken (((LE.out.trans le2).trans le3).trans le9)⟩
end Sh
/- sherdref18.Text, Check. -/
set_option linter.unusedVariables false
set_option linter.unusedSimpArgs false
namespace Sh
open Go Go.RowKit Go.Proofs
attribute [local go_sem ↓] Go.wp_at_zero Go.wp_at_succ
set_option maxHeartbeats 1000000
set_option maxRecDepth 100000

theorem textC_step {E : List En} {j : Nat} (h : j < E.length) (n : Int) : nb 2 n ++ (E.take (j + 1)).flatMap entC = nb 2 n ++ (E.take j).flatMap entC ++ entC E[j] := by
  rw [List.take_succ_eq_append_getElem h, List.flatMap_append, List.append_assoc]
  simp
theorem entC_yes {a : Int} {d : List UInt8} (h : d.length ≠ 0) : entC (a, d) = nb 2 a ++ [1] ++ d := by
  show nb 2 a ++ (nb 1 (min d.length 1 : Nat) ++ d) = _
  rw [Nat.min_eq_right (by omega), nb_one, List.append_assoc]; rfl
theorem entC_no {a : Int} {d : List UInt8} (h : d.length = 0) : entC (a, d) = nb 2 a ++ [0] := by
  obtain rfl : d = [] := List.eq_nil_of_length_eq_zero h
  show nb 2 a ++ (nb 1 (min 0 1 : Nat) ++ []) = _
  rw [nb_one]; rfl
theorem flat_len_le {E : List En} {j : Nat} (n : Int) : (nb 2 n ++ (E.take j).flatMap entC).length = sizeC (E.take j) := by
  have := textC_len (E.take j)
  rw [textC, List.length_append, nb_length] at this
  rw [List.length_append, nb_length]; exact this
set_option maxHeartbeats 4000000
theorem chText_spec {w : World} {R : Snap} {L : Asrt} {v : Value} {cs : List Ch} (H : Holds w R L) (hr : RdC R.cell? v cs) (hz : SzC cs) (hp : ∀ x ∈ cs, x.at_ ≤ 9223372036854775807) :
    Calls Try.prog 144 #[v] w fun e w' => ∃ o, e = .returned o ∧ Holds w' R (star (rowB o (textC (conC cs))) L) := by
  obtain ⟨a, c, rfl⟩ := hr.form
  obtain ⟨n, hn⟩ : ∃ n, n = cs.length := ⟨_, rfl⟩
  obtain ⟨E, hE⟩ : ∃ E, E = conC cs := ⟨_, rfl⟩
  have HR := Hid.mk' hr
  have HN := Hid.mk' hn
  have HZ := Hid.mk' hz
  have HP := Hid.mk' hp
  have HE := Hid.mk' hE
  have hn9 : n ≤ 1000 := by rw [hn]; exact hz.1
  have HEL : Hid (E.length = n) := Hid.mk' (by rw [hE, conC_len, hn])
  have HEG : Hid (∀ j (h : j < cs.length) (h2 : j < E.length), E[j] = (cs[j].at_, cs[j].data)) := Hid.mk' (fun j h h2 => by
    have := conC_get h
    rw [← hE, List.getElem?_eq_getElem h2] at this
    exact Option.some.inj this)
  have HS9 : Hid (∀ j, sizeC (E.take j) ≤ 10010000) := Hid.mk' (fun j => by
    have h1 := sizeC_le cs hz j
    have h2 := hz.1
    rw [hE]; omega)
  rw [← hE, ← hn]
  obtain ⟨T, hT⟩ : ∃ T : Nat → List UInt8, T = fun j => nb 2 (n : Nat) ++ (E.take j).flatMap entC := ⟨_, rfl⟩
  have HT0 : Hid (T 0 = nb 2 (n : Nat)) := Hid.mk' (by rw [hT]; simp)
  have HTS : Hid (∀ j (h : j < E.length), T (j + 1) = T j ++ entC E[j]) := Hid.mk' (fun j h => by rw [hT]; exact textC_step h _)
  have HTL : Hid (∀ j, (T j).length ≤ 10010000) := Hid.mk' (fun j => by rw [hT]; show (nb 2 _ ++ _).length ≤ _; rw [flat_len_le]; exact HS9.out j)
  have HTN : Hid (T n = textC E) := Hid.mk' (by rw [hT, ← HEL.out]; show nb 2 _ ++ (E.take _).flatMap entC = _; rw [List.take_length]; rfl)
  rw [← HTN.out]
  clear hr hn hz hE hT hp
  go_enter Try.func144, Try.ntmps144
  go_wp2_with fail
  refine (refnum_spec (k := 2) (n := (n : Nat)) H (by omega)).mono ?_
  rintro e w1 ⟨o1, rfl, H1⟩
  rw [← HT0.out] at H1
  clear H
  go_wp2_with fail
  go_loopw [3, 4] (fun s i wx => ∃ (j : Nat), i = .int .i64 j ∧ j ≤ n ∧ Holds wx R (star (rowB s (T j)) L)) (fun _ i _ => n - (intOf i).toNat)
  case atStart => exact ⟨0, rfl, Nat.zero_le _, H1⟩
  case round =>
    clear H1
    obtain ⟨j, rfl, hj, H3⟩ := hrel
    by_cases hlt : j < n
    · have d1 : decide ((j : Int) < (n : Int)) = true := by simp; omega
      have hjs : j < cs.length := by rw [← HN.out]; exact hlt
      have hjE : j < E.length := by rw [HEL.out]; exact hlt
      obtain ⟨b2, o2, rfl, hc0, hc1, hq⟩ := RdC.at HR.out hjs
      have he := HEG.out j hjs hjE
      have hts := HTS.out j hjE
      have htl := HTL.out (j + 1)
      have hpx := HP.out _ (List.getElem_mem hjs)
      have hdx := HZ.out.2 _ (List.getElem_mem hjs)
      rw [he] at hts
      generalize cs[j] = x at *
      obtain ⟨xa, xv, xd⟩ := x
      simp only at hc0 hc1 hq hts hpx hdx
      obtain ⟨ax, cx, rfl⟩ := hq.form
      obtain ⟨l, hl⟩ : ∃ l, l = xd.length := ⟨_, rfl⟩
      have HQ : Hid (RdB R.cell? (.slice ax l cx) xd) := Hid.mk' (by rw [hl]; exact hq)
      have HL := Hid.mk' hl
      rw [← hl] at hc1 hdx
      have C0 := Hid.mk' hc0
      have C1 := Hid.mk' hc1
      replace hc0 := H3.cell hc0
      replace hc1 := H3.cell hc1
      have i1 : (0 : Int) ≤ (j : Int) := by omega
      have i2 : (j : Int) < (n : Int) := by omega
      have HTX := Hid.mk' hts
      have htj := HTL.out j
      clear hq hl hjE he hjs hts
      go_wp2_with fail
      refine (refnum_spec (k := 2) (n := xa) H3 hpx).mono ?_
      rintro e w4 ⟨o4, rfl, H4⟩
      obtain ⟨ao, co, rfl⟩ := H4.rowRd.form
      have hrd : RdB w4.cell? (.slice ao (nb 2 xa).length co) (nb 2 xa) := H4.rowRd
      have hlk : (nb 2 xa).length = 2 := by rw [nb_length, wid_2]
      have H6 := H4.swap
      clear H3 hc0 hc1
      go_wp2_with (with_reducible refine stop_append ?_)
      refine Hold.go (wpList_appendB (l := T j) (k := nb 2 xa) rfl _ _ rfl rfl rfl H6 hrd (by have h9 := hlk; omega) ?_)
      intro v5 w5 H5
      have H7 := H5.drop2
      clear H4 H6 hrd H5
      have hc1 := H7.cell C1.out
      by_cases h0 : l = 0
      · have t0 : ((l : Int) == 0) = true := by rw [beq_iff_eq]; omega
        have HTY : Hid (T (j + 1) = T j ++ nb 2 xa ++ [0]) := Hid.mk' (by rw [HTX.out, entC_no (by rw [← HL.out]; exact h0), List.append_assoc])
        clear h0
        go_upto_region 7 with fail
        clear hc1
        go_wp2_with (with_reducible refine stop_append ?_)
        have H8 := blkB (n := 1) (H7.alloc #[.int .u8 0] tU8) [0] rfl rfl (by simp)
        have hrd := H8.rowRd
        refine Hold.go (wpList_appendB (l := T j ++ nb 2 xa) (k := [0]) rfl _ _ rfl rfl rfl H8.swap hrd (by rw [List.length_append, hlk]; simp; omega) ?_)
        intro v9 w9 H9
        rw [← HTY.out] at H9
        have H10 := H9.drop2
        clear H7 H8 hrd H9
        go_wp2_with fail
        go_roundw
        case rel => exact ⟨j + 1, by go_num, hlt, H10⟩
        case measure => simp [intOf]; omega
      · have t0 : ((l : Int) == 0) = false := by rw [beq_eq_false_iff_ne]; omega
        have HTY : Hid (T (j + 1) = T j ++ nb 2 xa ++ [1] ++ xd) := Hid.mk' (by rw [HTX.out, entC_yes (by rw [← HL.out]; exact h0)]; simp only [List.append_assoc])
        have H0 := Hid.mk' h0
        clear h0
        go_upto_region 8 with fail
        clear hc1
        go_wp2_with (with_reducible refine stop_append ?_)
        have H8 := blkB (n := 1) (H7.alloc #[.int .u8 1] tU8) [1] rfl rfl (by simp)
        have hrd := H8.rowRd
        refine Hold.go (wpList_appendB (l := T j ++ nb 2 xa) (k := [1]) rfl _ _ rfl rfl rfl H8.swap hrd (by rw [List.length_append, hlk]; simp; omega) ?_)
        intro v9 w9 H9
        have H10 := H9.drop2
        clear H7 H8 hrd H9
        have hc1 := H10.cell C1.out
        go_upto_region 9 with fail
        go_wp2_with (with_reducible refine stop_append ?_)
        refine Hold.go (wpList_appendB (l := T j ++ nb 2 xa ++ [1]) (k := xd) rfl _ _ rfl rfl rfl H10 (Rd.world HQ.out H10) (by rw [List.length_append, List.length_append, hlk, ← HL.out]; simp; omega) ?_)
        intro v11 w11 H11
        rw [← HTY.out] at H11
        clear H10 hc1
        go_wp2_with fail
        go_roundw
        case rel => exact ⟨j + 1, by go_num, hlt, H11⟩
        case measure => simp [intOf]; omega
    · have d1 : decide ((j : Int) < (n : Int)) = false := by simp; omega
      obtain rfl : j = n := by omega
      go_wp2_with fail
      go_ret
      exact ⟨_, rfl, H3⟩
end Sh
/- entry.text. -/
set_option linter.unusedVariables false
set_option linter.unusedSimpArgs false
namespace Sh
open Go Go.RowKit Go.Proofs
attribute [local go_sem ↓] Go.wp_at_zero Go.wp_at_succ
set_option maxHeartbeats 1000000
set_option maxRecDepth 100000

theorem sizeC_take_le (E : List En) (j : Nat) : sizeC (E.take j) ≤ sizeC E := by
  have : sizeC E = sizeC (E.take j) + ((E.drop j).map fun c => 3 + c.2.length).sum := by
    conv => lhs; rw [← List.take_append_drop j E]
    rw [sizeC, sizeC, List.map_append, List.sum_append]; omega
  omega
theorem sizeC_len (E : List En) : 2 + 3 * E.length ≤ sizeC E := by
  unfold sizeC
  have : 3 * E.length ≤ (E.map fun c => 3 + c.2.length).sum := by
    induction E with
    | nil => simp
    | cons c l ih => rw [List.map_cons, List.sum_cons, List.length_cons]; omega
  omega
theorem text18_spec {w : World} {R : Snap} {L : Asrt} {v : Value} {cs : List Ch} (H : Holds w R L) (hr : RdC R.cell? v cs) (hs : sizeC (conC cs) ≤ 1856) (hp : ∀ x ∈ cs, x.at_ ≤ 9223372036854775807) :
    Calls Try.prog 140 #[v] w fun e w' => ∃ o, e = .returned o ∧ Holds w' R (star (rowB o (textC (conC cs))) L) := by
  obtain ⟨a, c, rfl⟩ := hr.form
  obtain ⟨n, hn⟩ : ∃ n, n = cs.length := ⟨_, rfl⟩
  obtain ⟨E, hE⟩ : ∃ E, E = conC cs := ⟨_, rfl⟩
  have HR := Hid.mk' hr
  have HN := Hid.mk' hn
  have HP := Hid.mk' hp
  have HE := Hid.mk' hE
  rw [← hE] at hs ⊢
  have HEL : Hid (E.length = n) := Hid.mk' (by rw [hE, conC_len, hn])
  have hn9 : n ≤ 1000 := by have := sizeC_len E; rw [HEL.out] at this; omega
  have HEG : Hid (∀ j (h : j < cs.length) (h2 : j < E.length), E[j] = (cs[j].at_, cs[j].data)) := Hid.mk' (fun j h h2 => by
    have := conC_get h
    rw [← hE, List.getElem?_eq_getElem h2] at this
    exact Option.some.inj this)
  rw [← hn]
  obtain ⟨T, hT⟩ : ∃ T : Nat → List UInt8, T = fun j => nb 2 (n : Nat) ++ (E.take j).flatMap entC := ⟨_, rfl⟩
  have HT0 : Hid (T 0 = nb 2 (n : Nat)) := Hid.mk' (by rw [hT]; simp)
  have HTS : Hid (∀ j (h : j < E.length), T (j + 1) = T j ++ entC E[j]) := Hid.mk' (fun j h => by rw [hT]; exact textC_step h _)
  have HTL : Hid (∀ j, (T j).length ≤ 1856) := Hid.mk' (fun j => by rw [hT]; show (nb 2 _ ++ _).length ≤ _; rw [flat_len_le]; exact Nat.le_trans (sizeC_take_le E j) hs)
  have HTN : Hid (T n = textC E) := Hid.mk' (by rw [hT, ← HEL.out]; show nb 2 _ ++ (E.take _).flatMap entC = _; rw [List.take_length]; rfl)
  rw [← HTN.out]
  clear hr hn hE hT hp hs
  go_enter Try.func140, Try.ntmps140
  go_upto_region 2 with fail
  have H1 : Holds _ R (star (wr _ []) L) := wr_shut (((H.alloc #[.slice none 0 0] 153).nilRow tU8 1).swap)
  generalize (World.alloc ..) = w1 at H1 ⊢
  generalize w.heap.size = pw at H1 ⊢
  clear H
  go_wp2_with fail
  refine (num_spec (k := 2) (n := (n : Nat)) H1 (by simp) (by omega)).mono ?_
  rintro e w2 ⟨rfl, H2⟩
  rw [List.nil_append, ← HT0.out] at H2
  clear H1
  go_wp2_with fail
  go_loopw [14] (fun i wx => ∃ (j : Nat), i = .int .i64 j ∧ j ≤ n ∧ Holds wx R (star (wr pw (T j)) L)) (fun i _ => n - (intOf i).toNat)
  case atStart => exact ⟨0, rfl, Nat.zero_le _, H2⟩
  case round =>
    clear H2
    obtain ⟨j, rfl, hj, H3⟩ := hrel
    by_cases hlt : j < n
    · have d1 : decide ((j : Int) < (n : Int)) = true := by simp; omega
      have hjs : j < cs.length := by rw [← HN.out]; exact hlt
      have hjE : j < E.length := by rw [HEL.out]; exact hlt
      obtain ⟨b2, o2, rfl, hc0, hc1, hq⟩ := RdC.at HR.out hjs
      have he := HEG.out j hjs hjE
      have hts := HTS.out j hjE
      have htl := HTL.out (j + 1)
      have htj := HTL.out j
      have hpx := HP.out _ (List.getElem_mem hjs)
      rw [he] at hts
      generalize cs[j] = x at *
      obtain ⟨xa, xv, xd⟩ := x
      simp only at hc0 hc1 hq hts hpx
      obtain ⟨ax, cx, rfl⟩ := hq.form
      obtain ⟨l, hl⟩ : ∃ l, l = xd.length := ⟨_, rfl⟩
      have hl9 : l ≤ 1856 := by
        rw [hts, List.length_append, entC_len] at htl
        simp only at htl
        omega
      have HQ : Hid (RdB R.cell? (.slice ax l cx) xd) := Hid.mk' (by rw [hl]; exact hq)
      have HL := Hid.mk' hl
      rw [← hl] at hc1
      replace hc0 := H3.cell hc0
      replace hc1 := H3.cell hc1
      have i1 : (0 : Int) ≤ (j : Int) := by omega
      have i2 : (j : Int) < (n : Int) := by omega
      obtain ⟨m, hm⟩ : ∃ m, m = min l 1 := ⟨_, rfl⟩
      have hmin : min (l : Int) 1 = (m : Int) := by omega
      have hm9 : m ≤ 1 := by omega
      have HTX : Hid (T (j + 1) = T j ++ nb 2 xa ++ nb 1 (m : Nat) ++ xd) := Hid.mk' (by
        rw [hts, entC, ← hl, ← hm]; simp only [List.append_assoc])
      obtain ⟨R4, le4, H4, hb⟩ := H3.allocR (.cells #[.int .i64 xa, .slice ax l cx] tChg (0, 0))
      clear hq hl hjE he hjs hts hm
      go_upto_region 7 with fail
      generalize (World.alloc ..) = w4 at H4 ⊢
      generalize wr.heap.size = g at hb ⊢
      clear H3 hc0 hc1
      obtain ⟨l1, n1, c1⟩ := Holds.frzFacts (H4) hb
      go_wp2_with fail
      refine (num_spec (k := 2) (n := xa) H4 (by omega) hpx).mono ?_
      rintro e w5 ⟨rfl, H5⟩
      clear H4 l1 n1 c1
      obtain ⟨l1, n1, c1⟩ := Holds.frzFacts (H5) hb
      go_upto_region 8 with fail
      go_wp2_with fail
      refine (num_spec (k := 1) (n := (m : Nat)) H5 (by rw [List.length_append, nb_length, wid_2]; omega) (by omega)).mono ?_
      rintro e w6 ⟨rfl, H6⟩
      clear H5 l1 n1 c1
      obtain ⟨l1, n1, c1⟩ := Holds.frzFacts (H6) hb
      go_upto_region 9 with fail
      go_wp2_with fail
      refine (raw_spec (v := .slice ax l cx) (b := xd) H6 (by rw [List.length_append, List.length_append, nb_length, nb_length, wid_2, wid_1]; omega) (by rw [← HL.out]; omega) (Rd.world (Rd.le HQ.out le4) H6)).mono ?_
      rintro e w7 ⟨rfl, H7⟩
      rw [← HTX.out] at H7
      clear H6 l1 n1 c1
      go_wp2_with fail
      go_roundw
      case rel => exact ⟨j + 1, by go_num, hlt, H7.weaken le4⟩
      case measure => simp [intOf]; omega
    · have d1 : decide ((j : Int) < (n : Int)) = false := by simp; omega
      obtain rfl : j = n := by omega
      have htj := HTL.out j
      go_wp2_with fail
      refine (bytes_spec H3 (by omega)).mono ?_
      rintro e w5 ⟨v5, rfl, H5⟩
      go_wp2_with fail
      go_ret
      exact ⟨_, rfl, H5.drop2⟩
end Sh
/- A range over a function, over what a world holds: a round's regions by their plain walk; what the loop's own book-keeping keeps. -/
set_option linter.unusedVariables false
set_option linter.unusedSimpArgs false
namespace Sh
open Go Go.RowKit Go.Proofs
attribute [local go_sem ↓] Go.wp_at_zero Go.wp_at_succ
set_option maxHeartbeats 1000000
set_option maxRecDepth 100000

/-! ### What a round's operations do -/
def Op.noDefer : Op → Bool
  | .defer _ => false
  | _ => true
theorem noDefer_spec {o : Oper} (h : Sh.Op.noDefer o.op = true) : ∀ c, o.op ≠ .defer c := by
  intro c e; rw [e] at h; cases h
theorem calls_round {l n : Nat} {P : Program} {f : FuncId} {args : Array Value} {w : World} {R : Ending → World → Prop} (h : Calls P f args w R) : CallsIn (Fence.wide.inRound l) n P f args w R :=
  CallsIn.inRound l (callsIn_wide.2 h)
theorem rows_round {l n : Nat} {P : Program} {r : String} {args : Array Value} {w : World} {R : Value → World → Prop} (h : Rows P r args w R) : RowsIn (Fence.wide.inRound l) n P r args w R := by
  intro c cs _
  obtain ⟨v, w', hR, hs⟩ := h c cs
  exact ⟨v, w', hR, by rw [fenced_inRound]; exact stepsIn_wide.2 hs⟩
theorem upon_round {l n : Nat} {P : Program} {o : Oper} {a : Act} {K K' : Act → World → Prop} {Q : Exit → Act → World → Prop} (hK : ∀ a w, K a w → K' a w) : ∀ {r : Result Next}, o.upon P a K Q r → o.uponIn (Fence.wide.inRound l) n P a K' Q r := by
  intro r h
  have hd : (Fence.wide.inRound l).depth.isSome = true → 1 ≤ n := fun h => by cases h
  cases r with
  | ok nx w =>
    cases nx with
    | value v => exact hK _ _ h
    | skip => exact hK _ _ h
    | defer d => exact hK _ _ h
    | enter f args =>
      refine ⟨hd, calls_round (Calls.mono h fun e w' he => ?_)⟩
      cases e with
      | returned v => exact hK _ _ he
      | panicked c => exact he
      | outgrown => exact he
    | row r args => exact ⟨hd, rows_round (Rows.mono h fun v w' he => hK _ _ he)⟩
    | _ => exact h.elim
  | halt x w =>
    cases x with
    | panic v => exact h
    | _ => exact h.elim
theorem list_round {l n : Nat} {P : Program} {ops : Array Oper} {Q : Exit → Act → World → Prop} (hL : ¬ LetsOut Q) : ∀ (os : List Oper), (∀ o ∈ os, Sh.Op.noDefer o.op = true) → ∀ (a : Act) (w : World), wpList P ops Q os a w → wpListIn (Fence.wide.inRound l) n P ops Q os a w
  | [], _, _, _, h => h
  | o :: os, hd, a, w, h => by
    have ih := list_round (l := l) (n := n) (P := P) (ops := ops) hL os (fun x hx => hd x (List.mem_cons_of_mem _ hx))
    unfold wpList at h
    unfold wpListIn
    by_cases hw : Region.wanted o (yielded ops a.tmps) = true
    · rw [if_pos hw] at h ⊢
      rcases h with h | ⟨_, h⟩
      · refine ⟨fun _ _ => trivial, ?_⟩
        rw [Oper.semAt_plain _ _ _ (noDefer_spec (hd o List.mem_cons_self))]
        exact upon_round ih h
      · exact absurd h hL
    · rw [if_neg hw] at h ⊢
      exact ⟨fun _ _ => trivial, ih _ _ h⟩
theorem op_round {l n : Nat} {P : Program} {ops : Array Oper} {Q : Exit → Act → World → Prop} (hL : ¬ LetsOut Q) (hd : ∀ o ∈ ops.toList, Sh.Op.noDefer o.op = true) {i : Nat} {K K' : Act → World → Prop} (hK : ∀ a w, K a w → K' a w) {a : Act} {w : World} (h : wpOp P ops Q i K a w) : wpOpIn (Fence.wide.inRound l) n P ops Q i K' a w := by
  unfold wpOp at h
  unfold wpOpIn
  cases ho : ops[i]? with
  | none => rw [ho] at h; exact hK _ _ h
  | some o =>
    rw [ho] at h
    simp only at h ⊢
    by_cases hw : Region.wanted o (yielded ops a.tmps) = true
    · rw [if_pos hw] at h ⊢
      rcases h with h | ⟨_, h⟩
      · refine ⟨fun _ _ => trivial, ?_⟩
        rw [Oper.semAt_plain _ _ _ (noDefer_spec (hd o (List.mem_of_getElem? (by rw [Array.getElem?_toList]; exact ho))))]
        exact upon_round hK h
      · exact absurd h hL
    · rw [if_neg hw] at h ⊢
      exact ⟨fun _ _ => trivial, hK _ _ h⟩
theorem any_round {l n : Nat} {P : Program} {md : Region.Mode} {ops : Array Oper} {Q : Exit → Act → World → Prop} (hL : ¬ LetsOut Q) (hd : ∀ o ∈ ops.toList, Sh.Op.noDefer o.op = true) : ∀ (fuel : Nat) (listed : Array Bool) (a : Act) (w : World), wpAny P md ops Q fuel listed a w → wpAnyIn (Fence.wide.inRound l) n P md ops Q fuel listed a w
  | 0, _, _, _, h => h
  | fuel + 1, listed, a, w, h => ⟨h.1, fun i hi => op_round hL hd (fun a w h => any_round hL hd fuel _ a w h) (h.2 i hi)⟩
theorem lets_then {K : Act → World → Prop} {Q : Exit → Act → World → Prop} (h : ¬ LetsOut Q) : ¬ LetsOut (Exit.then K Q) := fun ⟨a, w, q⟩ => h ⟨a, w, q⟩
/-- A region in a round, and what follows. -/
theorem seq_round {l n : Nat} {P : Program} {id : Nat} {os : List Oper} {rest : Code} {Q : Exit → Act → World → Prop} {a : Act} {w : World} (hd : os.all (fun o => Sh.Op.noDefer o.op) = true) (hL : ¬ LetsOut Q)
    (h : ∀ K : Act → World → Prop, (∀ a w, rest.wpIn (Fence.wide.inRound l) n P Q a w → K a w) → wpList P os.toArray (Exit.then K Q) os a w) : (Code.seq (Code.region id os.toArray false) rest).wpIn (Fence.wide.inRound l) n P Q a w :=
  wpIn_seq_k fun K hK => wpIn_region_lit (list_round (lets_then hL) os (List.all_eq_true.1 hd) a w (h K hK))
theorem last_round {l n : Nat} {P : Program} {id : Nat} {os : List Oper} {Q : Exit → Act → World → Prop} {a : Act} {w : World} (hd : os.all (fun o => Sh.Op.noDefer o.op) = true) (hL : ¬ LetsOut Q)
    (h : wpList P os.toArray Q os a w) : (Code.region id os.toArray false).wpIn (Fence.wide.inRound l) n P Q a w :=
  wpIn_region_lit (list_round hL os (List.all_eq_true.1 hd) a w h)
theorem draw_round {l n : Nat} {P : Program} {id : Nat} {os : List Oper} {Q : Exit → Act → World → Prop} {a : Act} {w : World} (hm : P.follows .mixedOrders = true) (hd : os.all (fun o => Sh.Op.noDefer o.op) = true) (hL : ¬ LetsOut Q)
    (h : wpAny P .any os.toArray Q os.length (Array.replicate os.length false) a w.drew) : (Code.region id os.toArray true).wpIn (Fence.wide.inRound l) n P Q a w :=
  wpIn_region_any hm (any_round hL (List.all_eq_true.1 hd) _ _ _ _ h)
/-! ### What is owned and is cells -/
def Asrt.celly (L : Asrt) : Prop := ∀ h F, L.on h F → ∀ i, F i → ∃ cs t fr, h i = some (.cells cs t fr)
theorem celly_emp : emp.celly := fun _ _ h i hi => absurd hi (h i)
theorem celly_star {A B : Asrt} (ha : A.celly) (hb : B.celly) : (star A B).celly := by
  rintro h F ⟨F1, F2, a, b, _, e⟩ i hi
  rcases (e i).1 hi with h1 | h1
  · exact ha h F1 a i h1
  · exact hb h F2 b i h1
theorem celly_blk (b : Nat) (cs : Array Value) (t : TypeId) : (blk b cs t).celly := fun h F ⟨a, e⟩ i hi => ⟨cs, t, (0, 0), by rw [(e i).1 hi]; exact a⟩
theorem celly_row (t : TypeId) (size : Nat) (v : Value) (n : Nat) (xs : List Value) : (row t size v n xs).celly := by
  rintro h F ⟨_, c⟩ i hi
  rcases c with ⟨_, _, c⟩ | ⟨g, cap, cur, _, e2, _, _, _, _, e⟩
  · exact absurd hi (c i)
  · exact ⟨cur, t, (0, 0), by rw [(e i).1 hi]; exact e2⟩
theorem celly_ex {α : Type} {A : α → Asrt} (h : ∀ x, (A x).celly) : (ex A).celly := fun hp F ⟨x, hx⟩ => h x hp F hx
theorem celly_bytes : ∀ l, (bytesAll l).celly
  | [] => celly_emp
  | q :: l => celly_star (celly_row _ _ _ _ _) (celly_bytes l)
/-- The loop's book-keeping keeps what is held. -/
theorem Holds.grown {W W' : World} {R : Snap} {L : Asrt} {B : Nat} {r : Option Nat} (H : Holds W R L) (hc : L.celly) (hB : ∀ i o, R.blk i = some o → i < B) (hg : W.grownBy W' r) (hr : ∀ x, r = some x → B ≤ x ∧ ∃ o : Obj, W.heap[x]? = some o ∧ o.isCells = false) : Holds W' R L := by
  obtain ⟨F, hF, hR⟩ := H.own
  refine ⟨hg.os.trans H.os, hg.tape.trans H.tape, hg.output.trans H.output, fun i o hi => ?_, F, L.loc hF fun i hi => ?_, hR⟩
  · have h1 := H.blk i o hi
    rw [hg.block i (Array.getElem?_eq_some_iff.1 h1).1 fun e => by have := (hr i e.symm).1; have := hB i o hi; omega]
    exact h1
  · obtain ⟨cs, t, fr, hcs⟩ := hc _ _ hF i hi
    have h1 : W.heap[i]? = some (.cells cs t fr) := hcs
    exact hg.block i (Array.getElem?_eq_some_iff.1 h1).1 fun e => by
      obtain ⟨_, o, h2, h3⟩ := hr i e.symm
      rw [h1] at h2
      cases h2
      cases h3
theorem Holds.putOther {W : World} {R : Snap} {L : Asrt} {B D : Nat} {o : Obj} (o' : Obj) (H : Holds W R L) (hc : L.celly) (hB : ∀ i o, R.blk i = some o → i < B) (hD : B ≤ D) (h : W.heap[D]? = some o) (ho : o.isCells = false) : Holds (W.putObj D o') R L :=
  H.grown hc hB (grownBy_putObj' W D o') fun x e => by cases e; exact ⟨hD, o, h, ho⟩
theorem Holds.blkLtAll {W : World} {R : Snap} {L : Asrt} (H : Holds W R L) : ∀ i o, R.blk i = some o → i < W.heap.size := fun i o h => (Array.getElem?_eq_some_iff.1 (H.blk i o h)).1
/-- All that is no cells, held as it lies. -/
def Snap.big (R : Snap) (W : World) : Snap := { R with blk := fun i => match R.blk i with
  | some o => some o
  | none => match W.heap[i]? with
    | some o => if o.isCells = true then none else some o
    | none => none }
theorem Snap.le_big (R : Snap) (W : World) : R.le (R.big W) := ⟨rfl, rfl, rfl, fun i o h => by simp only [Snap.big, h]⟩
theorem Holds.big {W : World} {R : Snap} {L : Asrt} (H : Holds W R L) (hc : L.celly) : Holds W (R.big W) L := by
  obtain ⟨F, hF, hR⟩ := H.own
  refine ⟨H.os, H.tape, H.output, fun i o hi => ?_, F, hF, fun i hi => ?_⟩
  · simp only [Snap.big] at hi
    cases h : R.blk i with
    | some x => rw [h] at hi; cases hi; exact H.blk i _ h
    | none =>
      rw [h] at hi
      cases h2 : W.heap[i]? with
      | none => rw [h2] at hi; cases hi
      | some x =>
        rw [h2] at hi
        simp only at hi
        split at hi
        · cases hi
        · exact hi
  · obtain ⟨cs, t, fr, hcs⟩ := hc _ _ hF i hi
    have h1 : W.heap[i]? = some (.cells cs t fr) := hcs
    simp only [Snap.big, hR i hi, h1]
    rfl
theorem Snap.big_at {R : Snap} {W : World} {i : Nat} {o : Obj} (h : W.heap[i]? = some o) (ho : o.isCells = false) (hR : ∀ x, R.blk i = some x → W.heap[i]? = some x) : (R.big W).blk i = some o := by
  simp only [Snap.big]
  cases h2 : R.blk i with
  | some x => rw [hR x h2] at h; exact h
  | none => simp only [h, ho]; rfl
theorem keeps_of {W W' : World} {R R' : Snap} {L L' : Asrt} (H : Holds W R L) (H' : Holds W' R' L') (hle : (R.big W).le R') (hs : W.heap.size ≤ W'.heap.size) : KeepsOthers W W' :=
  ⟨hs, fun k o hk ho => H'.blk k o (hle.blk k o (Snap.big_at hk ho fun x hx => H.blk k x hx))⟩
/-- A range over a function: what is held before a round is held behind it. -/
theorem wp_range {α β : Type} {P : Program} {g : Operand} {ps : Array Tmp} {assign body : Code} {Q : Exit → Act → World → Prop} {a : Act} {w : World}
    {gf c : Nat} {lb : Array Value} (hg : a.eval g = .func (.func gf) #[] lb) (eg : ∀ args w, (callFunc gf args).run P w = .ok (.enter gf args) w)
    {encs : α → Array Value} {S : List α → Prop} {N : Nat} (hseq : SeqStopsK Fence.wide 2 P gf lb encs (fun W W' => W'.heap[c]? = W.heap[c]?) S (fun _ => True) N w) (hps : ∀ x, (encs x).size = ps.size)
    {R0 : Snap} {A : β → Asrt} (φ : List α → β → Prop) (hc : ∃ o, R0.blk c = some o) (hcy : ∀ b, (A b).celly) (b0 : β) (h0 : φ [] b0) (H0 : Holds w R0 (A b0)) (fa : Act → α → Act)
    (hassign : ∀ (l : Nat) (x : α) (W : World) (K : Act → World → Prop), K (fa a x) W →
      assign.wpIn (Fence.wide.inRound l) 1 P (Exit.then K (fun _ _ _ => False)) { tmps := (ps.zip (encs x)).foldl (fun t (p, v) => t.setIfInBounds p v) a.tmps, defers := [] } W)
    (hbody : ∀ (l : Nat) (pre : List α) (x : α) (b : β) (W : World), φ pre b → pre.length < N → Holds W (R0.big W) (A b) →
      body.wpIn (Fence.wide.inRound l) 1 P (fun e _ W' => e = .normal ∧ ∃ b' R', (R0.big W).le R' ∧ W.heap.size ≤ W'.heap.size ∧ φ (pre ++ [x]) b' ∧ Holds W' R' (A b')) (fa a x) W)
    (hdone : ∀ (D : Nat) (xs : List α) (b : β) (W : World), S xs → φ xs b → Holds W R0 (A b) → (∀ o', Holds (W.putObj D o') R0 (A b)) → W.heap[D]? = some (.deferred (some [])) → Q .normal { a with defers := { target := .collected D, args := #[] } :: a.defers } W) :
    (Code.rangeFunc g ps assign body).wp P Q a w := by
  obtain ⟨oc, hoc⟩ := hc
  have hB := H0.blkLtAll
  have hcw : c < w.heap.size := hB c oc hoc
  refine (wpIn_wide (n := 3)).1 (wpIn_rangeFunc_ownF (F := Fence.wide) (n := 3) rfl (by decide) (gf := gf) (lb := lb) hg trivial eg hseq (fun h k => k.trans h) (fun W l o o' hl _ _ _ => World.putObj_heap_other (by omega)) (Below.refl _ _) hps
    (fun pre W => ∃ b, φ pre b ∧ Holds W R0 (A b)) (fun _ _ _ => False) ?_ (fun _ _ _ _ _ h _ _ => h) ⟨b0, h0, H0⟩ (fun x => fa a x) hassign ?_ ?_ ?_)
  · rintro pre W W' row ⟨b, hb, H⟩ hg hr
    exact ⟨b, hb, H.grown (hcy b) hB hg hr⟩
  · rintro l pre x W ⟨b, hb, H⟩ hN
    refine wpIn_mono (hbody l pre x b W hb hN (H.big (hcy b))) ?_
    rintro e a' W' ⟨rfl, b', R', hle, hs, hb', H'⟩
    exact ⟨keeps_of H H' hle hs, (H'.blk c oc ((R0.le_big W).trans hle |>.blk c oc hoc)).trans (H.blk c oc hoc).symm, b', hb', H'.weaken ((R0.le_big W).trans hle)⟩
  · rintro D xs W hD hS ⟨b, hb, H⟩ hK
    exact hdone D xs b W hS hb H (fun o' => H.putOther o' (hcy b) hB hD hK rfl) hK
  · rintro D c' pre W _ _ h
    exact h.elim
theorem lets_normal {α β : Type} {R : Exit → Act → World → Prop} {T : World → Prop} : ¬ LetsOut (fun e (_ : Act) W' => e = .normal ∧ T W') := fun ⟨_, _, h, _⟩ => by cases h
end Sh
/- A range over a function that writes a variable of its own: what is held before a round is held behind it. -/
set_option linter.unusedVariables false
set_option linter.unusedSimpArgs false
namespace Sh
open Go Go.RowKit Go.Proofs
attribute [local go_sem ↓] Go.wp_at_zero Go.wp_at_succ
set_option maxHeartbeats 1000000
set_option maxRecDepth 100000

theorem Holds.ownNone {w : World} {R : Snap} {L : Asrt} {c : Nat} {cs : Array Value} {t : TypeId} (H : Holds w R (star (Sh.blk c cs t) L)) : R.blk c = none := by
  obtain ⟨F, ⟨F1, F2, ⟨_, e1⟩, _, _, e⟩, hR⟩ := H.own
  exact hR c ((e c).2 (.inl ((e1 c).2 rfl)))
/-- What was read for a while is owned again. -/
theorem Holds.thaw {W : World} {R0 R1 : Snap} {L : Asrt} {c : Nat} {cs : Array Value} {t : TypeId} (H : Holds W R1 L) (hle : R0.le R1) (h0 : R0.blk c = none) (h1 : R1.blk c = some (.cells cs t (0, 0))) : Holds W R0 (star (Sh.blk c cs t) L) := by
  obtain ⟨F, hF, hR⟩ := H.own
  refine ⟨H.os.trans hle.os, H.tape.trans hle.tape, H.output.trans hle.output, fun i o hi => H.blk i o (hle.blk i o hi), fun i => i = c ∨ F i, ⟨fun i => i = c, F, ⟨H.blk c _ h1, fun i => Iff.rfl⟩, hF, ?_, fun i => Iff.rfl⟩, ?_⟩
  · intro i hi hf
    subst hi
    have := hR i hf
    rw [h1] at this; cases this
  · rintro i (rfl | hi)
    · exact h0
    · cases hb : R0.blk i with
      | none => rfl
      | some o => have := hle.blk i o hb; rw [hR i hi] at this; cases this
/-- What an iterator does that writes its variable in block c, for every body that leaves this block alone. -/
def SeqMut {α : Type} (P : Program) (g : Nat) (lb : Array Value) (encs : α → Array Value) (c : Nat) (tc : TypeId) (S : List α → Prop) (N : Nat) (w : World) : Prop :=
  ∀ (l : Nat) (J : List α → World → Prop) (W : World), W.heap[c]? = w.heap[c]? →
    (∀ pre W1 v v', J pre W1 → W1.heap[c]? = some (.cells #[v] tc (0, 0)) → J pre (W1.setCell ⟨c, 0, none⟩ v')) →
    (∀ pre x W1, J pre W1 → pre.length < N → YieldAt Fence.wide 1 P l (encs x) W1 fun e W' => e = .returned (.bool true) ∧ J (pre ++ [x]) W' ∧ W'.heap[c]? = W1.heap[c]?) →
    J [] W → CallsIn Fence.wide 2 P g (#[.func (.yield l) #[] #[]] ++ lb) W fun e W' => (∃ v, e = .returned v) ∧ ∃ xs, S xs ∧ J xs W'
theorem wp_rangeMut {α β : Type} {P : Program} {g : Operand} {ps : Array Tmp} {assign body : Code} {Q : Exit → Act → World → Prop} {a : Act} {w : World}
    {gf c : Nat} {tc : TypeId} {lb : Array Value} (hg : a.eval g = .func (.func gf) #[] lb) (eg : ∀ args w, (callFunc gf args).run P w = .ok (.enter gf args) w)
    {encs : α → Array Value} {S : List α → Prop} {N : Nat} (hseq : SeqMut P gf lb encs c tc S N w) (hps : ∀ x, (encs x).size = ps.size)
    {R0 : Snap} {A : β → Asrt} (φ : List α → β → Prop) (hcy : ∀ b, (A b).celly) (b0 : β) (v0 : Value) (h0 : φ [] b0) (H0 : Holds w R0 (star (blk c #[v0] tc) (A b0))) (fa : Act → α → Act)
    (hassign : ∀ (l : Nat) (x : α) (W : World) (K : Act → World → Prop), K (fa a x) W →
      assign.wpIn (Fence.wide.inRound l) 1 P (Exit.then K (fun _ _ _ => False)) { tmps := (ps.zip (encs x)).foldl (fun t (p, v) => t.setIfInBounds p v) a.tmps, defers := [] } W)
    (hbody : ∀ (l : Nat) (pre : List α) (x : α) (b : β) (W : World) (R1 : Snap), φ pre b → pre.length < N → R0.le R1 → Holds W R1 (A b) →
      body.wpIn (Fence.wide.inRound l) 1 P (fun e _ W' => e = .normal ∧ ∃ b' R', R1.le R' ∧ W.heap.size ≤ W'.heap.size ∧ φ (pre ++ [x]) b' ∧ Holds W' R' (A b')) (fa a x) W)
    (hdone : ∀ (D : Nat) (xs : List α) (b : β) (W : World), w.heap.size ≤ D → S xs → φ xs b → Holds W R0 (A b) → (∀ o', Holds (W.putObj D o') R0 (A b)) → W.heap[D]? = some (.deferred (some [])) → Q .normal { a with defers := { target := .collected D, args := #[] } :: a.defers } W) :
    (Code.rangeFunc g ps assign body).wp P Q a w := by
  refine (wpIn_wide (n := 3)).1 (wpIn_rangeFunc ?_)
  intro fn hfn
  have hcw : c < w.heap.size := H0.blkLt
  have hB := H0.blkLtAll
  have hc0 := H0.ownNone
  obtain ⟨D, hD⟩ : ∃ D, D = w.heap.size := ⟨_, rfl⟩
  obtain ⟨rec, hrec⟩ : ∃ rec : LoopState → Option Code → Loop, rec = fun st pe => { state := st, pending := pe, fn, tmps := a.tmps, params := ps, assign, body, defers := D } := ⟨_, rfl⟩
  obtain ⟨V, hV⟩ : ∃ V, V = (w.alloc (.deferred (some []))).alloc (.loop (rec .ready none)) := ⟨_, rfl⟩
  have hcy2 : ∀ b v, (star (blk c #[v] tc) (A b)).celly := fun b v => celly_star (celly_blk _ _ _) (hcy b)
  -- the invariant: what is held, with the iterator's variable
  obtain ⟨I, hI⟩ : ∃ I : List α → World → Prop, I = fun pre W => ∃ b v, φ pre b ∧ Holds W R0 (star (blk c #[v] tc) (A b)) := ⟨_, rfl⟩
  have hput : ∀ {pre W l o} (o' : Obj), I pre W → D ≤ l → W.heap[l]? = some o → o.isCells = false → I pre (W.putObj l o') := by
    intro pre W l o o' h h1 h2 h3
    rw [hI] at h ⊢
    obtain ⟨b, v, h4, h5⟩ := h
    exact ⟨b, v, h4, h5.putOther o' (hcy2 b v) hB (by rw [hD] at h1; exact h1) h2 h3⟩
  have hIc : ∀ {pre W}, I pre W → ∃ v, W.heap[c]? = some (.cells #[v] tc (0, 0)) := by
    intro pre W h
    rw [hI] at h
    obtain ⟨b, v, _, h5⟩ := h
    exact ⟨v, h5.blkAt⟩
  have hV0 : I [] V := by
    rw [hI, hV]
    exact ⟨b0, v0, h0, (H0.garbage _).garbage _⟩
  have hVl : V.heap[D + 1]? = some (.loop (rec .ready none)) := by
    rw [hV, hD]
    have := World.alloc_heap_new (w.alloc (.deferred (some []))) (.loop (rec .ready none))
    rwa [World.size_alloc] at this
  have hVd : V.heap[D]? = some (.deferred (some [])) := by
    rw [hV, hD]
    exact (Below.heap_alloc _ _ _ (by simp)).trans (World.alloc_heap_new w _)
  have hVc : V.heap[c]? = w.heap[c]? := by
    rw [hV]
    exact (Below.heap_alloc _ _ _ (by rw [World.size_alloc]; omega)).trans (Below.heap_alloc _ _ _ (by omega))
  obtain ⟨J, hJ⟩ : ∃ J : List α → World → Prop, J = fun pre W => I pre W ∧ W.heap[D + 1]? = some (.loop (rec .ready none)) ∧ W.heap[D]? = some (.deferred (some [])) := ⟨_, rfl⟩
  refine ⟨D + 1, [{ target := .collected D, args := #[] }], V, { target := .fn (.func gf) lb, args := #[.func (.yield (D + 1)) #[] #[]] }, V, gf, #[.func (.yield (D + 1)) #[] #[]] ++ lb, V, ?_, ?_, (fun _ _ => trivial), ?_, (fun h => by cases h), ?_⟩
  · rw [hV, hrec, hD]; exact run_enterLoop_outer _ _ _ _ _
  · simp only [resolve, hg]
    simp [go_sem]
  · simp [invoke, go_sem, eg]
  · refine (hseq (D + 1) J V hVc ?_ ?_ (by rw [hJ]; exact ⟨hV0, hVl, hVd⟩)).mono ?_
    · -- the iterator writes its variable
      intro pre W1 v v' h hc
      rw [hJ] at h ⊢
      obtain ⟨h1, h2, h3⟩ := h
      have n1 : ∀ k, D ≤ k → (W1.setCell ⟨c, 0, none⟩ v').heap[k]? = W1.heap[k]? := fun k hk => Below.heap_setCell _ _ _ _ (by show k ≠ c; omega)
      refine ⟨?_, (n1 _ (by omega)).trans h2, (n1 _ (by omega)).trans h3⟩
      rw [hI] at h1 ⊢
      obtain ⟨b, u, h4, h5⟩ := h1
      exact ⟨b, v', h4, h5.set 0 v'⟩
    · -- a round
      intro pre x W1 h hlen
      rw [hJ] at h
      obtain ⟨h1, h2, h3⟩ := h
      have hlt : D + 1 < W1.heap.size := (Array.getElem?_eq_some_iff.1 h2).1
      have hy := run_yield (P := P) (args := encs x) h2 (by rw [hrec]; exact hps x)
      rw [hrec] at hy
      refine ⟨fn, _, assign, body, hy, roundIn_of_wpIn hfn (hassign _ x W1 _ ⟨_, run_beginRound h2 (by rw [hrec]), ?_⟩)⟩
      obtain ⟨B, hBB⟩ : ∃ B, B = W1.putObj (D + 1) (.loop { rec .ready none with state := .busy }) := ⟨_, rfl⟩
      rw [← hBB]
      have b1 : I pre B := by rw [hBB]; exact hput _ h1 (by omega) h2 rfl
      have b2 : B.heap[D + 1]? = some (.loop { rec .ready none with state := .busy }) := by rw [hBB]; exact World.putObj_heap_same hlt
      have b3 : B.heap[D]? = some (.deferred (some [])) := by rw [hBB]; exact (World.putObj_heap_other (by omega)).trans h3
      have b4 : B.heap[c]? = W1.heap[c]? := by rw [hBB]; exact World.putObj_heap_other (by omega)
      have b1' := b1
      rw [hI] at b1'
      obtain ⟨b, v, f1, f2⟩ := b1'
      obtain ⟨R1, le1, f3, f4⟩ := (f2.big (hcy2 b v)).freezeBlk
      have le01 := (R0.le_big B).trans le1
      refine wpIn_mono (hbody _ pre x b B R1 f1 hlen le01 f3) ?_
      rintro e a3 W3 ⟨rfl, b', R', le2, hs3, g1, g2⟩
      have hko : KeepsOthers B W3 := keeps_of f2 g2 (le1.trans le2) hs3
      have g3 : I (pre ++ [x]) W3 := by
        rw [hI]
        exact ⟨b', v, g1, g2.thaw (le01.trans le2) hc0 (le2.blk _ _ f4)⟩
      have g4 := hko.same _ _ b2 rfl
      have g5 := hko.same _ _ b3 rfl
      have g6 : W3.heap[c]? = W1.heap[c]? := by
        rw [← b4, g2.blk c _ (le2.blk _ _ f4), f2.blkAt]
      have hend := run_endRound (P := P) none g4
      have hr0 : ({ ({ rec .ready none with state := .busy } : Loop) with state := if (none : Option Code).isNone then .ready else .done, pending := none } : Loop) = rec .ready none := by rw [hrec]; rfl
      rw [hr0] at hend
      refine ⟨_, _, hend, rfl, ?_, ?_⟩
      · rw [hJ]
        exact ⟨hput _ g3 (by omega) g4 rfl, World.putObj_heap_same (Array.getElem?_eq_some_iff.1 g4).1, (World.putObj_heap_other (by omega)).trans g5⟩
      · rw [World.putObj_heap_other (by omega)]; exact g6
    · -- behind the iterator
      rintro e W2 ⟨⟨v, rfl⟩, xs, hS, h⟩
      rw [hJ] at h
      obtain ⟨h1, h2, h3⟩ := h
      have hend := run_endLoop (P := P) h2 (by rw [hrec]; simp)
      refine ⟨none, _, by rw [hrec] at hend; exact hend, ?_⟩
      have g1 := hput (.loop { rec .ready none with state := .exhausted }) h1 (by omega) h2 rfl
      rw [hI] at g1
      obtain ⟨b, u, g2, g3⟩ := g1
      have g4 : (W2.putObj (D + 1) (.loop { rec .ready none with state := .exhausted })).heap[D]? = some (.deferred (some [])) := (World.putObj_heap_other (by omega)).trans h3
      rw [hrec] at g3 g4
      have g5 := g3.drop
      exact hdone D xs b _ (by rw [hD]; exact Nat.le_refl _) hS g2 g5 (fun o' => g5.putOther o' (hcy b) hB (by rw [hD]; exact Nat.le_refl _) g4 rfl) g4
end Sh
