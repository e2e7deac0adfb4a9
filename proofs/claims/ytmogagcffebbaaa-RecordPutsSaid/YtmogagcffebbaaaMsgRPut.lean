/- sherdref25.Put. -/
import Derived.Test.YtmogagcffebbaaaMsgSize
import Derived.Test.YtmogagcffebbaaaPackRef
import Derived.Test.YtmogagcffebbaaaCrcRef
set_option linter.unusedVariables false
set_option linter.unusedSimpArgs false
namespace Sh
open Go Go.RowKit Go.Proofs
attribute [local go_sem ↓] Go.wp_at_zero Go.wp_at_succ
set_option maxHeartbeats 1000000
set_option maxRecDepth 100000

theorem nb_byte {n : Int} (h0 : 0 ≤ n) : nb 1 n = [UInt8.ofNat n.toNat] := by
  obtain ⟨k, rfl⟩ := Int.eq_ofNat_of_zero_le h0
  rw [nb_one]; simp
set_option maxHeartbeats 8000000
theorem rmput_ok {w : World} {R : Snap} {L : Asrt} (m : Ms) (H : Holds w R L) (hm : m.Rd R.cell?) (hz : m.Sz) (hok : msgOk m = true) :
    Calls Try.prog 57 #[.agg m.cells.toArray] w fun e w' => ∃ o, e = .returned o ∧ Holds w' R (star (rowB o (putM m)) L) := by
  have HM := Hid.mk' hm
  have HZ := Hid.mk' hz
  have HOK := Hid.mk' hok
  have hk := hok
  simp only [msgOk, Bool.and_eq_true, decide_eq_true_eq, Bool.or_eq_true] at hk
  obtain ⟨⟨⟨⟨⟨⟨⟨⟨⟨⟨k1, k2⟩, k3⟩, k4⟩, k5⟩, k6⟩, k7⟩, k8⟩, k9⟩, k10⟩, k11⟩ := hk
  have f1 := inAll_mem k4 (x := m.from_) (by simp)
  have f2 := inAll_mem k4 (x := m.to_) (by simp)
  have f3 := inAll_mem k5 (x := m.ballot) (by simp)
  have f4 := inAll_mem k5 (x := m.attempt) (by simp)
  have f5 := inAll_mem k5 (x := m.epoch) (by simp)
  have f6 := inAll_mem k5 (x := m.mark) (by simp)
  have f7 := inAll_mem k7 (x := m.size) (by simp)
  have f8 := inAll_mem k7 (x := (m.data.length : Int)) (by simp)
  have f9 := inAll_mem k8 (x := m.what) (by simp)
  have f10 := inAll_mem k8 (x := (m.who.length : Int)) (by simp)
  obtain ⟨kind, from_, to_, ballot, name, attempt, epoch, mark, size, what, vw, vn, vd, who, names, data⟩ := m
  obtain ⟨hw, hn, hd⟩ := hm
  obtain ⟨z1, z2, z3, z4, z5⟩ := hz
  simp only at z1 z2 z3 z4 z5 hw hn hd
  obtain ⟨aw, cw, rfl⟩ := hw.form
  obtain ⟨an, cn, rfl⟩ := hn.form
  obtain ⟨ad, cd, rfl⟩ := hd.form
  simp only at k1 k2 k6 k9 k10 k11 f1 f2 f3 f4 f5 f6 f7 f8 f9 f10
  obtain ⟨R1, le1, H1, hb⟩ := H.allocR (.cells #[.int .i64 kind, .int .i64 from_, .int .i64 to_, .int .i64 ballot, .string name, .int .i64 attempt, .int .i64 epoch, .int .i64 mark, .int .i64 size, .int .i64 what, .slice aw who.length cw, .slice an names.length cn, .slice ad data.length cd] tMsg (0, 0))
  have HW := Hid.mk' (Rd.le hw le1)
  have HN := Hid.mk' (Rd.le hn le1)
  have HD := Hid.mk' (Rd.le hd le1)
  have K6 := Hid.mk' k6
  have K10 := Hid.mk' k10
  have LE := Hid.mk' le1
  clear hw hn hd hok H k3 k4 k5 k7 k8 k6 k10 le1
  obtain ⟨l1, n1, c1⟩ := Holds.frzFacts (H1) hb
  show Calls _ _ #[.agg #[.int .i64 kind, .int .i64 from_, .int .i64 to_, .int .i64 ballot, .string name, .int .i64 attempt, .int .i64 epoch, .int .i64 mark, .int .i64 size, .int .i64 what, .slice aw who.length cw, .slice an names.length cn, .slice ad data.length cd]] _ _
  go_enter Try.func57, Try.ntmps57
  go_upto_region 2 with fail
  have hk8 : ((UInt8.ofNat kind.toNat).toNat : Int) = kind := by
    rw [UInt8.toNat_ofNat']; omega
  have H2 := H1.alloc #[.int .u8 77, .int .u8 kind] tU8
  have H3 := blkB (n := 2) H2 [77, UInt8.ofNat kind.toNat] (by
    show [Value.int .u8 77, Value.int .u8 kind] = [Value.int .u8 ((77 : UInt8).toNat : Int), Value.int .u8 ((UInt8.ofNat kind.toNat).toNat : Int)]
    rw [hk8]; rfl) rfl (by simp)
  clear hk8
  have eT : [77, UInt8.ofNat kind.toNat] = nb 1 77 ++ nb 1 kind := by rw [nb_byte (by omega), nb_byte (by omega)]; rfl
  rw [eT] at H3
  obtain ⟨T0, hT⟩ : ∃ T0, T0 = nb 1 77 ++ nb 1 kind := ⟨_, rfl⟩
  have hl : T0.length ≤ 2 := by rw [hT]; simp [nb_length, wid_1]
  rw [← hT] at H3
  have HT0 := Hid.mk' hT
  clear hT H1 H2 l1 n1 c1 eT
  rw [World.size_alloc] at H3
  generalize (World.alloc ..) = w3 at H3 ⊢
  generalize (w.heap.size + 1) = g3 at H3 ⊢
  obtain ⟨l1, n1, c1⟩ := Holds.frzFacts (H3) hb
  go_wp2_with fail
  refine (refnum_spec (k := 2) (n := from_) H3 (by omega)).mono ?_
  rintro e w4 ⟨o, rfl, H4⟩
  obtain ⟨ao, co, rfl⟩ := H4.rowRd.form
  have hrd : RdB w4.cell? (.slice ao (nb 2 from_).length co) (nb 2 from_) := H4.rowRd
  have hlk : (nb 2 from_).length ≤ 256 := by rw [nb_length, wid_2]; omega
  have H6 : Holds w4 R1 (star (rowB _ T0) (star (rowB _ (nb 2 from_)) L)) := H4.swap
  clear H3 l1 n1 c1
  go_wp2_with (with_reducible refine stop_append ?_)
  refine Hold.go (wpList_appendB (l := T0) (k := nb 2 from_) rfl _ _ rfl rfl rfl H6 hrd (by have h9 := hlk; omega) ?_)
  intro v5 w5 H5
  obtain ⟨T1, hT⟩ : ∃ T, T = T0 ++ nb 2 from_ := ⟨_, rfl⟩
  have hl1 : T1.length ≤ 6 := by rw [hT, List.length_append]; rw [nb_length]; simp only [wid_1, wid_2, wid_4]; omega
  rw [← hT] at H5
  have HT1 := Hid.mk' hT
  have H3 := H5.drop2
  clear hT hrd hlk H4 H6 H5 hl
  go_upto_region 3 with fail
  obtain ⟨l1, n1, c1⟩ := Holds.frzFacts (H3) hb
  go_wp2_with fail
  refine (refnum_spec (k := 2) (n := to_) H3 (by omega)).mono ?_
  rintro e w4 ⟨o, rfl, H4⟩
  obtain ⟨ao, co, rfl⟩ := H4.rowRd.form
  have hrd : RdB w4.cell? (.slice ao (nb 2 to_).length co) (nb 2 to_) := H4.rowRd
  have hlk : (nb 2 to_).length ≤ 256 := by rw [nb_length, wid_2]; omega
  have H6 : Holds w4 R1 (star (rowB _ T1) (star (rowB _ (nb 2 to_)) L)) := H4.swap
  clear H3 l1 n1 c1
  go_wp2_with (with_reducible refine stop_append ?_)
  refine Hold.go (wpList_appendB (l := T1) (k := nb 2 to_) rfl _ _ rfl rfl rfl H6 hrd (by have h9 := hlk; omega) ?_)
  intro v5 w5 H5
  obtain ⟨T2, hT⟩ : ∃ T, T = T1 ++ nb 2 to_ := ⟨_, rfl⟩
  have hl2 : T2.length ≤ 10 := by rw [hT, List.length_append]; rw [nb_length]; simp only [wid_1, wid_2, wid_4]; omega
  rw [← hT] at H5
  have HT2 := Hid.mk' hT
  have H3 := H5.drop2
  clear hT hrd hlk H4 H6 H5 hl1
  go_upto_region 4 with fail
  obtain ⟨l1, n1, c1⟩ := Holds.frzFacts (H3) hb
  go_wp2_with fail
  refine (refnum_spec (k := 4) (n := ballot) H3 (by omega)).mono ?_
  rintro e w4 ⟨o, rfl, H4⟩
  obtain ⟨ao, co, rfl⟩ := H4.rowRd.form
  have hrd : RdB w4.cell? (.slice ao (nb 4 ballot).length co) (nb 4 ballot) := H4.rowRd
  have hlk : (nb 4 ballot).length ≤ 256 := by rw [nb_length, wid_4]; omega
  have H6 : Holds w4 R1 (star (rowB _ T2) (star (rowB _ (nb 4 ballot)) L)) := H4.swap
  clear H3 l1 n1 c1
  go_wp2_with (with_reducible refine stop_append ?_)
  refine Hold.go (wpList_appendB (l := T2) (k := nb 4 ballot) rfl _ _ rfl rfl rfl H6 hrd (by have h9 := hlk; omega) ?_)
  intro v5 w5 H5
  obtain ⟨T3, hT⟩ : ∃ T, T = T2 ++ nb 4 ballot := ⟨_, rfl⟩
  have hl3 : T3.length ≤ 14 := by rw [hT, List.length_append]; rw [nb_length]; simp only [wid_1, wid_2, wid_4]; omega
  rw [← hT] at H5
  have HT3 := Hid.mk' hT
  have H3 := H5.drop2
  clear hT hrd hlk H4 H6 H5 hl2
  go_upto_region 5 with fail
  obtain ⟨l1, n1, c1⟩ := Holds.frzFacts (H3) hb
  obtain ⟨a9, c9, w9, hconv, R2, le2, H9, hs9⟩ := convBytes H3 z1
  go_wp2_with fail
  have hlen9 : (strB name).length ≤ 16 := by
    rw [strB_len]
    rcases k11 with k | k
    · omega
    · exact nameOk_len k
  refine (reftext_spec H9 hs9 (by omega)).mono ?_
  rintro e w4 ⟨o, rfl, H4⟩
  replace H4 : Holds w4 R2 (star (rowB o (txS name)) _) := H4
  replace hb := le2.blk _ _ hb
  have hlt9 : (txS name).length ≤ 256 := tx_len _
  clear hconv hs9
  obtain ⟨ao, co, rfl⟩ := H4.rowRd.form
  have hrd : RdB w4.cell? (.slice ao (txS name).length co) (txS name) := H4.rowRd
  have hlk : (txS name).length ≤ 256 := hlt9
  have H6 : Holds w4 R2 (star (rowB _ T3) (star (rowB _ (txS name)) L)) := H4.swap
  clear H3 l1 n1 c1
  go_wp2_with (with_reducible refine stop_append ?_)
  refine Hold.go (wpList_appendB (l := T3) (k := txS name) rfl _ _ rfl rfl rfl H6 hrd (by have h9 := hlk; omega) ?_)
  intro v5 w5 H5
  obtain ⟨T4, hT⟩ : ∃ T, T = T3 ++ txS name := ⟨_, rfl⟩
  have hl4 : T4.length ≤ 270 := by rw [hT, List.length_append]; omega
  rw [← hT] at H5
  have HT4 := Hid.mk' hT
  have H3 := H5.drop2
  clear hT hrd hlk H4 H6 H5 hl3
  go_upto_region 6 with fail
  obtain ⟨l1, n1, c1⟩ := Holds.frzFacts (H3) hb
  go_wp2_with fail
  refine (refnum_spec (k := 4) (n := attempt) H3 (by omega)).mono ?_
  rintro e w4 ⟨o, rfl, H4⟩
  obtain ⟨ao, co, rfl⟩ := H4.rowRd.form
  have hrd : RdB w4.cell? (.slice ao (nb 4 attempt).length co) (nb 4 attempt) := H4.rowRd
  have hlk : (nb 4 attempt).length ≤ 256 := by rw [nb_length, wid_4]; omega
  have H6 : Holds w4 R2 (star (rowB _ T4) (star (rowB _ (nb 4 attempt)) L)) := H4.swap
  clear H3 l1 n1 c1
  go_wp2_with (with_reducible refine stop_append ?_)
  refine Hold.go (wpList_appendB (l := T4) (k := nb 4 attempt) rfl _ _ rfl rfl rfl H6 hrd (by have h9 := hlk; omega) ?_)
  intro v5 w5 H5
  obtain ⟨T5, hT⟩ : ∃ T, T = T4 ++ nb 4 attempt := ⟨_, rfl⟩
  have hl5 : T5.length ≤ 274 := by rw [hT, List.length_append]; rw [nb_length]; simp only [wid_1, wid_2, wid_4]; omega
  rw [← hT] at H5
  have HT5 := Hid.mk' hT
  have H3 := H5.drop2
  clear hT hrd hlk H4 H6 H5 hl4
  go_upto_region 7 with fail
  obtain ⟨l1, n1, c1⟩ := Holds.frzFacts (H3) hb
  go_wp2_with fail
  refine (refnum_spec (k := 4) (n := epoch) H3 (by omega)).mono ?_
  rintro e w4 ⟨o, rfl, H4⟩
  obtain ⟨ao, co, rfl⟩ := H4.rowRd.form
  have hrd : RdB w4.cell? (.slice ao (nb 4 epoch).length co) (nb 4 epoch) := H4.rowRd
  have hlk : (nb 4 epoch).length ≤ 256 := by rw [nb_length, wid_4]; omega
  have H6 : Holds w4 R2 (star (rowB _ T5) (star (rowB _ (nb 4 epoch)) L)) := H4.swap
  clear H3 l1 n1 c1
  go_wp2_with (with_reducible refine stop_append ?_)
  refine Hold.go (wpList_appendB (l := T5) (k := nb 4 epoch) rfl _ _ rfl rfl rfl H6 hrd (by have h9 := hlk; omega) ?_)
  intro v5 w5 H5
  obtain ⟨T6, hT⟩ : ∃ T, T = T5 ++ nb 4 epoch := ⟨_, rfl⟩
  have hl6 : T6.length ≤ 278 := by rw [hT, List.length_append]; rw [nb_length]; simp only [wid_1, wid_2, wid_4]; omega
  rw [← hT] at H5
  have HT6 := Hid.mk' hT
  have H3 := H5.drop2
  clear hT hrd hlk H4 H6 H5 hl5
  go_upto_region 8 with fail
  obtain ⟨l1, n1, c1⟩ := Holds.frzFacts (H3) hb
  go_wp2_with fail
  refine (refnum_spec (k := 4) (n := mark) H3 (by omega)).mono ?_
  rintro e w4 ⟨o, rfl, H4⟩
  obtain ⟨ao, co, rfl⟩ := H4.rowRd.form
  have hrd : RdB w4.cell? (.slice ao (nb 4 mark).length co) (nb 4 mark) := H4.rowRd
  have hlk : (nb 4 mark).length ≤ 256 := by rw [nb_length, wid_4]; omega
  have H6 : Holds w4 R2 (star (rowB _ T6) (star (rowB _ (nb 4 mark)) L)) := H4.swap
  clear H3 l1 n1 c1
  go_wp2_with (with_reducible refine stop_append ?_)
  refine Hold.go (wpList_appendB (l := T6) (k := nb 4 mark) rfl _ _ rfl rfl rfl H6 hrd (by have h9 := hlk; omega) ?_)
  intro v5 w5 H5
  obtain ⟨T7, hT⟩ : ∃ T, T = T6 ++ nb 4 mark := ⟨_, rfl⟩
  have hl7 : T7.length ≤ 282 := by rw [hT, List.length_append]; rw [nb_length]; simp only [wid_1, wid_2, wid_4]; omega
  rw [← hT] at H5
  have HT7 := Hid.mk' hT
  have H3 := H5.drop2
  clear hT hrd hlk H4 H6 H5 hl6
  go_upto_region 9 with fail
  obtain ⟨l1, n1, c1⟩ := Holds.frzFacts (H3) hb
  go_wp2_with fail
  refine (refnum_spec (k := 2) (n := size) H3 (by omega)).mono ?_
  rintro e w4 ⟨o, rfl, H4⟩
  obtain ⟨ao, co, rfl⟩ := H4.rowRd.form
  have hrd : RdB w4.cell? (.slice ao (nb 2 size).length co) (nb 2 size) := H4.rowRd
  have hlk : (nb 2 size).length ≤ 256 := by rw [nb_length, wid_2]; omega
  have H6 : Holds w4 R2 (star (rowB _ T7) (star (rowB _ (nb 2 size)) L)) := H4.swap
  clear H3 l1 n1 c1
  go_wp2_with (with_reducible refine stop_append ?_)
  refine Hold.go (wpList_appendB (l := T7) (k := nb 2 size) rfl _ _ rfl rfl rfl H6 hrd (by have h9 := hlk; omega) ?_)
  intro v5 w5 H5
  obtain ⟨T8, hT⟩ : ∃ T, T = T7 ++ nb 2 size := ⟨_, rfl⟩
  have hl8 : T8.length ≤ 286 := by rw [hT, List.length_append]; rw [nb_length]; simp only [wid_1, wid_2, wid_4]; omega
  rw [← hT] at H5
  have HT8 := Hid.mk' hT
  have H3 := H5.drop2
  clear hT hrd hlk H4 H6 H5 hl7
  go_upto_region 10 with fail
  obtain ⟨l1, n1, c1⟩ := Holds.frzFacts (H3) hb
  go_wp2_with (with_reducible refine stop_append ?_)
  have hk8 : ((UInt8.ofNat what.toNat).toNat : Int) = what := by
    rw [UInt8.toNat_ofNat']; omega
  have hk9 : ((UInt8.ofNat (who.length : Int).toNat).toNat : Int) = (who.length : Int) := by
    rw [UInt8.toNat_ofNat']; omega
  have H4 := H3.alloc #[.int .u8 what, .int .u8 (who.length : Int)] tU8
  have H5 := blkB (n := 2) H4 [UInt8.ofNat what.toNat, UInt8.ofNat (who.length : Int).toNat] (by
    show [Value.int .u8 what, Value.int .u8 (who.length : Int)] = [Value.int .u8 ((UInt8.ofNat what.toNat).toNat : Int), Value.int .u8 ((UInt8.ofNat (who.length : Int).toNat).toNat : Int)]
    rw [hk8, hk9]) rfl (by simp)
  have eT : [UInt8.ofNat what.toNat, UInt8.ofNat (who.length : Int).toNat] = nb 1 what ++ nb 1 (who.length : Int) := by rw [nb_byte (by omega), nb_byte (by omega)]; rfl
  rw [eT] at H5
  have hlk : (nb 1 what ++ nb 1 (who.length : Int)).length = 2 := by rw [← eT]; rfl
  have hrd : RdB _ _ (nb 1 what ++ nb 1 (who.length : Int)) := H5.rowRd
  clear hk8 hk9 eT H3 H4
  refine Hold.go (wpList_appendB (l := T8) (k := nb 1 what ++ nb 1 (who.length : Int)) rfl _ _ rfl rfl rfl H5.swap hrd (by omega) ?_)
  intro v5 w5 H6
  clear l1 n1 c1
  obtain ⟨T9, hT⟩ : ∃ T, T = T8 ++ (nb 1 what ++ nb 1 (who.length : Int)) := ⟨_, rfl⟩
  have hl9 : T9.length ≤ 1000 := by rw [hT, List.length_append]; omega
  rw [← hT] at H6
  have HT9 := Hid.mk' hT
  have H3 := H6.drop2
  clear hT hrd hlk H5 H6 hl8
  go_upto_region 11 with fail
  go_wp2_with fail
  go_loopw [3, 4] (fun o i wx => ∃ j : Nat, i = .int .i64 j ∧ j ≤ who.length ∧ Holds wx R2 (star (rowB o (T9 ++ (who.take j).flatMap (nb 4))) L)) (fun _ i _ => who.length - (intOf i).toNat)
  case atStart => exact ⟨0, rfl, Nat.zero_le _, by simpa using H3⟩
  case round =>
    clear H3
    obtain ⟨j, rfl, hj, H4⟩ := hrel
    obtain ⟨l1, n1, c1⟩ := Holds.frzFacts (H4) hb
    by_cases hlt : j < who.length
    · obtain ⟨b1, o1, ha, hc⟩ := rdI_at (Rd.world (Rd.le HW.out le2) H4) hlt
      subst ha
      have hx := (inAll_mem K6.out (List.getElem_mem hlt)).2
      have hs : Hid ((who.take (j + 1)).flatMap (nb 4) = (who.take j).flatMap (nb 4) ++ nb 4 (who[j])) := Hid.mk' (by
        rw [List.take_succ_eq_append_getElem hlt, List.flatMap_append]; simp)
      have hl10 : (T9 ++ (who.take j).flatMap (nb 4)).length ≤ 1000000 := by
        rw [List.length_append, flatB_len (k := 4) (fun x => by rw [nb_length, wid_4]), List.length_take]; omega
      generalize who[j] = x at hc hx hs
      go_wp2_with fail
      refine (refnum_spec (k := 4) (n := x) H4 (by omega)).mono ?_
      rintro e w5 ⟨o5, rfl, H5⟩
      obtain ⟨ao, co, rfl⟩ := H5.rowRd.form
      have hrd : RdB w5.cell? (.slice ao (nb 4 x).length co) (nb 4 x) := H5.rowRd
      have hlk : (nb 4 x).length = 4 := by rw [nb_length, wid_4]
      have H6 := H5.swap
      clear H4 l1 n1 c1
      go_wp2_with (with_reducible refine stop_append ?_)
      refine Hold.go (wpList_appendB (l := T9 ++ (who.take j).flatMap (nb 4)) (k := nb 4 x) rfl _ _ rfl rfl rfl H6 hrd (by omega) ?_)
      intro v7 w7 H7
      go_wp2_with fail
      go_roundw
      case rel => exact ⟨j + 1, by go_num, hlt, by rw [hs.out, ← List.append_assoc]; exact H7.drop2⟩
      case measure => simp [intOf]; omega
    · obtain rfl : j = who.length := by omega
      rw [List.take_length] at H4
      obtain ⟨T10, hT⟩ : ∃ T, T = T9 ++ who.flatMap (nb 4) := ⟨_, rfl⟩
      have hl10 : T10.length ≤ 3000 := by
        rw [hT, List.length_append, flatB_len (k := 4) (fun x => by rw [nb_length, wid_4])]; omega
      rw [← hT] at H4
      have HT10 := Hid.mk' hT
      clear hT hl9
      go_wp2_with (with_reducible refine stop_append ?_)
      have hk9 : ((UInt8.ofNat names.length).toNat : Int) = (names.length : Int) := by
        rw [UInt8.toNat_ofNat']; omega
      have H5 := H4.alloc #[.int .u8 (names.length : Int)] tU8
      have H6 := blkB (n := 1) H5 [UInt8.ofNat names.length] (by
        show [Value.int .u8 (names.length : Int)] = [Value.int .u8 ((UInt8.ofNat names.length).toNat : Int)]
        rw [hk9]) rfl (by simp)
      rw [← nb_one] at H6
      have hlk : (nb 1 (names.length : Int)).length = 1 := by rw [nb_length, wid_1]
      have hrd : RdB _ _ (nb 1 (names.length : Int)) := H6.rowRd
      clear hk9 H4 H5
      refine Hold.go (wpList_appendB (l := T10) (k := nb 1 (names.length : Int)) rfl _ _ rfl rfl rfl H6.swap hrd (by omega) ?_)
      intro v7 w7 H7
      clear l1 n1 c1
      obtain ⟨T11, hT⟩ : ∃ T, T = T10 ++ nb 1 (names.length : Int) := ⟨_, rfl⟩
      have hl11 : T11.length ≤ 3001 := by rw [hT, List.length_append]; omega
      rw [← hT] at H7
      have HT11 := Hid.mk' hT
      have H3 := H7.drop2
      clear hT hrd hlk H6 H7 hl10
      go_wp2_with fail
      go_loopw [3, 5] (fun o i wx => ∃ (j : Nat) (R3 : Snap), i = .int .i64 j ∧ j ≤ names.length ∧ R2.le R3 ∧ Holds wx R3 (star (rowB o (T11 ++ (names.take j).flatMap txS)) L)) (fun _ i _ => names.length - (intOf i).toNat)
      case atStart => exact ⟨0, R2, rfl, Nat.zero_le _, Snap.le.refl _, by simpa using H3⟩
      case round =>
        clear H3
        obtain ⟨j, R3, rfl, hj, le3, H4⟩ := hrel
        have hb3 := le3.blk _ _ hb
        obtain ⟨l1, n1, c1⟩ := Holds.frzFacts (H4) hb3
        by_cases hlt : j < names.length
        · obtain ⟨b1, o1, ha, hc⟩ := rdS_at (Rd.world (Rd.le (Rd.le HN.out le2) le3) H4) hlt
          subst ha
          have hx16 := nameOk_len (List.all_eq_true.1 K10.out _ (List.getElem_mem hlt))
          have hxm := z2 _ (List.getElem_mem hlt)
          have hs : Hid ((names.take (j + 1)).flatMap txS = (names.take j).flatMap txS ++ txS (names[j])) := Hid.mk' (by
            rw [List.take_succ_eq_append_getElem hlt, List.flatMap_append]; simp)
          have hl12 : (T11 ++ (names.take j).flatMap txS).length ≤ 900000 := by
            rw [List.length_append]
            have := txs_len K10.out j
            omega
          generalize names[j] = x at hc hx16 hxm hs
          obtain ⟨a9, c9, w22, hconv, R4, le4, H5, hs22⟩ := convBytes H4 hxm
          go_wp2_with fail
          refine (reftext_spec H5 hs22 (by rw [strB_len]; omega)).mono ?_
          rintro e w6 ⟨o6, rfl, H6⟩
          replace H6 : Holds w6 R4 (star (rowB o6 (txS x)) _) := H6
          obtain ⟨ao, co, rfl⟩ := H6.rowRd.form
          have hrd : RdB w6.cell? (.slice ao (txS x).length co) (txS x) := H6.rowRd
          have hlk : (txS x).length ≤ 256 := tx_len _
          have H7 := H6.swap
          clear H4 H5 l1 n1 c1 hconv
          go_wp2_with (with_reducible refine stop_append ?_)
          refine Hold.go (wpList_appendB (l := T11 ++ (names.take j).flatMap txS) (k := txS x) rfl _ _ rfl rfl rfl H7 hrd (by omega) ?_)
          intro v8 w8 H8
          go_wp2_with fail
          go_roundw
          case rel => exact ⟨j + 1, R4, by go_num, hlt, le3.trans le4, by rw [hs.out, ← List.append_assoc]; exact H8.drop2⟩
          case measure => simp [intOf]; omega
        · obtain rfl : j = names.length := by omega
          rw [List.take_length] at H4
          have hl12 : (T11 ++ names.flatMap txS).length ≤ 900000 := by
            rw [List.length_append]
            have := txs_len K10.out names.length
            rw [List.take_length] at this
            omega
          go_wp2_with fail
          refine (reftext_spec H4 (Rd.le (Rd.le HD.out le2) le3) z5).mono ?_
          rintro e w6 ⟨o6, rfl, H6⟩
          replace H6 : Holds w6 R3 (star (rowB o6 (tx data)) _) := H6
          obtain ⟨ao, co, rfl⟩ := H6.rowRd.form
          have hrd : RdB w6.cell? (.slice ao (tx data).length co) (tx data) := H6.rowRd
          have hlk : (tx data).length ≤ 256 := tx_len _
          have H7 := H6.swap
          clear H4 l1 n1 c1
          go_wp2_with (with_reducible refine stop_append ?_)
          refine Hold.go (wpList_appendB (l := T11 ++ names.flatMap txS) (k := tx data) rfl _ _ rfl rfl rfl H7 hrd (by omega) ?_)
          intro v8 w8 H8
          have e24 : T11 ++ names.flatMap txS ++ tx data = bodyB (⟨kind, from_, to_, ballot, name, attempt, epoch, mark, size, what, .slice aw who.length cw, .slice an names.length cn, .slice ad data.length cd, who, names, data⟩ : Ms) := by
            rw [HT11.out, HT10.out, HT9.out, HT8.out, HT7.out, HT6.out, HT5.out, HT4.out, HT3.out, HT2.out, HT1.out, HT0.out]
            simp only [bodyB, bodyS, List.append_assoc, List.append_nil]
          have hbl : (bodyB (⟨kind, from_, to_, ballot, name, attempt, epoch, mark, size, what, .slice aw who.length cw, .slice an names.length cn, .slice ad data.length cd, who, names, data⟩ : Ms)).length ≤ 1000000 := by have := body_len HOK.out; omega
          rw [e24] at H8
          obtain ⟨R9, le9, H9, hr9⟩ := H8.drop2.freezeRow
          clear e24 hrd hlk H6 H7 H8
          go_wp2_with fail
          refine (cseal_ref H9 hr9 hbl).mono ?_
          rintro e w10 ⟨o, rfl, H10⟩
          go_wp2_with fail
          go_ret
          exact ⟨o, rfl, H10.weaken (((LE.out.trans le2).trans le3).trans le9)⟩
end Sh
