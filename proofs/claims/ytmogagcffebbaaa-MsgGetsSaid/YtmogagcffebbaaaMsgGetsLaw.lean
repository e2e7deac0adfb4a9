/- MsgGets: the walk. -/
import Derived.Test.YtmogagcffebbaaaMsgLaw
import Derived.Test.YtmogagcffebbaaaMsgRGot
import Derived.Test.YtmogagcffebbaaaMsgRPut
set_option linter.unusedVariables false
set_option linter.unusedSimpArgs false
namespace Sh
open Go Go.RowKit Go.Proofs
attribute [local go_sem ↓] Go.wp_at_zero Go.wp_at_succ
set_option maxHeartbeats 1000000
set_option maxRecDepth 100000

theorem getCode_cases (x : List UInt8) : getCode x = 0 ∨ getCode x = 3 ∨ getCode x = 4 := by
  unfold getCode; split
  · split
    · exact .inl rfl
    · exact .inr (.inl rfl)
  · exact .inr (.inr rfl)
theorem getCode_zero {x : List UInt8} (h : getCode x = 0) : msgOk (getMs x) = true ∧ putM (getMs x) = x := by
  unfold getCode at h
  by_cases hg : goodB x = true
  · rw [if_pos hg] at h
    by_cases hr : readOk (x.take (x.length - 4)) = true
    · have e := got_same hg
      rw [hr, Bool.and_eq_true, decide_eq_true_eq] at e
      rw [getMs, if_pos hg, if_pos hr]
      exact e
    · rw [if_neg hr] at h; cases h
  · rw [if_neg hg] at h; cases h
set_option maxHeartbeats 8000000
theorem msgGets_walk (W : World) {vb : Value} {b : List UInt8} (hb : RdB W.cell? vb b) :
    Calls Try.prog 10 #[vb] W fun e w' => e = .returned (.bool true) ∧ Below W.heap.size W w' := by
  have hb0 : RdB (Snap.of W).cell? vb b := hb
  have hmx := hb.max
  unfold maxLen at hmx
  obtain ⟨ab, cb, rfl⟩ := hb.form
  by_cases h700 : 700 < b.length
  · have t0 : decide ((700 : Int) < (b.length : Int)) = true := by simp; omega
    go_enter Try.func10, Try.ntmps10
    go_wp2_with fail
    refine (alive25 (Holds.start W)).mono ?_
    rintro e w99 ⟨rfl, H99⟩
    go_wp2_with fail
    go_ret
    exact ⟨rfl, H99.toBelow (Snap.le.refl _)⟩
  have t0 : decide ((700 : Int) < (b.length : Int)) = false := by simp; omega
  go_enter Try.func10, Try.ntmps10
  go_wp2_with fail
  refine (new_crc (Holds.start W)).mono ?_
  rintro e w1 ⟨p, rfl, H1⟩
  obtain ⟨R1, le1, H2, hT⟩ := H1.freezeBlk
  clear H1
  go_wp2_with fail
  refine (cseal_ref H2 (Rd.le hb0 le1) (by omega)).mono ?_
  rintro e w3 ⟨o, rfl, H3⟩
  obtain ⟨R2, le2, H4, hs⟩ := H3.freezeRow
  obtain ⟨as_, cs_, rfl⟩ := hs.form
  obtain ⟨R3, le3, H5, hb5⟩ := H4.allocR (.cells #[.slice ab b.length cb, .slice as_ (sealB b).length cs_] tBytes (0, 0))
  have HB := Hid.mk' (Rd.le (Rd.le (Rd.le hb0 le1) le2) le3)
  have HS := Hid.mk' (Rd.le hs le3)
  have hT3 := le3.blk _ _ (le2.blk _ _ hT)
  have leA := (le1.trans le2).trans le3
  have hsl := sealB_len b
  have HSL := Hid.mk' hsl
  clear H2 H3 H4 hs le1 le2 le3 hT hb0 hb hmx hsl
  go_wp2_with fail
  generalize (World.alloc ..) = w5 at H5 ⊢
  generalize w3.heap.size = g5 at hb5 ⊢
  go_loopw [20] (fun i wx => ∃ (j : Nat) (R' : Snap), i = .int .i64 j ∧ j ≤ 2 ∧ R3.le R' ∧ Holds wx R' emp) (fun i _ => 2 - (intOf i).toNat)
  case atStart => exact ⟨0, R3, rfl, by omega, Snap.le.refl _, H5⟩
  case round =>
    obtain ⟨j, R', rfl, hj, le', H6⟩ := hrel
    replace hb5 := le'.blk _ _ hb5
    replace hT3 := le'.blk _ _ hT3
    replace leA := leA.trans le'
    clear H5
    by_cases hlt : j < 2
    · have d1 : decide ((j : Int) < 2) = true := by simp; omega
      have hx : ∃ (ax : Option Addr) (cx : Nat) (x : List UInt8), wr.cell? ⟨g5, j, none⟩ = some (.slice ax x.length cx) ∧ RdB R'.cell? (.slice ax x.length cx) x ∧ x.length ≤ 1000000 := by
        have h := H6.frz hb5 j
        rcases (show j = 0 ∨ j = 1 by omega) with rfl | rfl
        · exact ⟨ab, cb, b, h, Rd.le HB.out le', by omega⟩
        · exact ⟨as_, cs_, sealB b, h, Rd.le HS.out le', by rw [HSL.out]; omega⟩
      obtain ⟨ax, cx, x, hc, hx, hxl⟩ := hx
      obtain ⟨N, hN⟩ : ∃ N, N = x.length := ⟨_, rfl⟩
      have HX : Hid (RdB R'.cell? (.slice ax N cx) x) := Hid.mk' (by rw [hN]; exact hx)
      rw [← hN] at hc
      have HXL := Hid.mk' hxl
      obtain ⟨c, hco⟩ : ∃ c, c = getCode x := ⟨_, rfl⟩
      have hcs := getCode_cases x
      rw [← hco] at hcs
      have HCO := Hid.mk' hco.symm
      have HN := Hid.mk' hN
      obtain ⟨l5, n5, c5⟩ := Holds.frzFacts (H6) hb5
      have i1 : (0 : Int) ≤ (j : Int) := by omega
      have i2 : (j : Int) < 2 := by omega
      clear hx hxl hN hco
      go_wp2_with fail
      refine (mget_spec H6 hT3 HX.out HXL.out).mono ?_
      rintro e w7 ⟨R7, le7, M, rfl, hc7, hMr, hMz, H7⟩
      rw [HCO.out]
      have HC7 := Hid.mk' hc7
      have HMZ := Hid.mk' hMz
      have HMR := Hid.mk' hMr
      obtain ⟨kind9, from9, to9, ballot9, name9, attempt9, epoch9, mark9, size9, what9, vw9, vn9, vd9, who9, names9, data9⟩ := M
      obtain ⟨hw9, hn9, hd9⟩ := hMr
      simp only at hw9 hn9 hd9
      obtain ⟨aw9, cw9, rfl⟩ := hw9.form
      obtain ⟨an9, cn9, rfl⟩ := hn9.form
      obtain ⟨ad9, cd9, rfl⟩ := hd9.form
      clear hw9 hn9 hd9
      obtain ⟨R8, le8, H8, hb8⟩ := H7.allocR (.cells #[.int .i64 kind9, .int .i64 from9, .int .i64 to9, .int .i64 ballot9, .string name9, .int .i64 attempt9, .int .i64 epoch9, .int .i64 mark9, .int .i64 size9, .int .i64 what9, .slice aw9 who9.length cw9, .slice an9 names9.length cn9, .slice ad9 data9.length cd9] tMsg (0, 0))
      replace HMR := Hid.mk' (HMR.out.le le8)
      replace HX := Hid.mk' (Rd.le HX.out (le7.trans le8))
      replace leA := (leA.trans le7).trans le8
      have leB := (le'.trans le7).trans le8
      clear H6 H7 hc7 hMz le' le7 le8 hc l5 n5 c5
      go_wp2_with fail
      generalize (World.alloc ..) = w8 at H8 ⊢
      generalize w7.heap.size = g8 at hb8 ⊢
      refine (rget_spec H8 HX.out HXL.out).mono ?_
      rintro e w9 ⟨R9, le9, M2, rfl, hc9, hMr2, hMz2, H9⟩
      rw [HCO.out]
      have HC9 := Hid.mk' hc9
      have HMZ2 := Hid.mk' hMz2
      have HMR2 := Hid.mk' hMr2
      obtain ⟨kind', from', to', ballot', name', attempt', epoch', mark', size', what', vw', vn', vd', who', names', data'⟩ := M2
      obtain ⟨hw', hn', hd'⟩ := hMr2
      simp only at hw' hn' hd'
      obtain ⟨aw', cw', rfl⟩ := hw'.form
      obtain ⟨an', cn', rfl⟩ := hn'.form
      obtain ⟨ad', cd', rfl⟩ := hd'.form
      obtain ⟨R10, le10, H10, hb10⟩ := H9.allocR (.cells #[.int .i64 kind', .int .i64 from', .int .i64 to', .int .i64 ballot', .string name', .int .i64 attempt', .int .i64 epoch', .int .i64 mark', .int .i64 size', .int .i64 what', .slice aw' who'.length cw', .slice an' names'.length cn', .slice ad' data'.length cd'] tMsg (0, 0))
      replace HMR := Hid.mk' ((HMR.out.le le9).le le10)
      replace HMR2 := Hid.mk' (HMR2.out.le le10)
      replace HX := Hid.mk' (Rd.le HX.out (le9.trans le10))
      replace leA := (leA.trans le9).trans le10
      replace leB := (leB.trans le9).trans le10
      replace hb8 := le10.blk _ _ (le9.blk _ _ hb8)
      clear H8 H9 hc9 hMz2 hw' hn' hd' le9 le10
      go_upto_region 9 with fail
      generalize (World.alloc ..) = w10 at H10 ⊢
      generalize w9.heap.size = g10 at hb10 ⊢
      obtain ⟨l8, n8, c8⟩ := Holds.frzFacts (H10) hb8
      obtain ⟨l10, n10, c10⟩ := Holds.frzFacts (H10) hb10
      have hsm : msSame (⟨kind9, from9, to9, ballot9, name9, attempt9, epoch9, mark9, size9, what9, .slice aw9 who9.length cw9, .slice an9 names9.length cn9, .slice ad9 data9.length cd9, who9, names9, data9⟩ : Ms) (⟨kind', from', to', ballot', name', attempt', epoch', mark', size', what', .slice aw' who'.length cw', .slice an' names'.length cn', .slice ad' data'.length cd', who', names', data'⟩ : Ms) = true := msSame_con (HC7.out.trans HC9.out.symm)
      have HSM := Hid.mk' hsm
      clear hsm
      rcases hcs with rfl | rfl | rfl
      · go_wp2_with fail
        refine (same25_spec (⟨kind9, from9, to9, ballot9, name9, attempt9, epoch9, mark9, size9, what9, .slice aw9 who9.length cw9, .slice an9 names9.length cn9, .slice ad9 data9.length cd9, who9, names9, data9⟩ : Ms) (⟨kind', from', to', ballot', name', attempt', epoch', mark', size', what', .slice aw' who'.length cw', .slice an' names'.length cn', .slice ad' data'.length cd', who', names', data'⟩ : Ms) H10 HMR.out HMZ.out HMR2.out HMZ2.out).mono ?_
        rintro e w11 ⟨rfl, H11⟩
        rw [HSM.out]
        obtain ⟨k1, k2⟩ := getCode_zero HCO.out
        have hok : msgOk (⟨kind9, from9, to9, ballot9, name9, attempt9, epoch9, mark9, size9, what9, .slice aw9 who9.length cw9, .slice an9 names9.length cn9, .slice ad9 data9.length cd9, who9, names9, data9⟩ : Ms) = true := (msgOk_con HC7.out).trans k1
        have hpt : putM (⟨kind9, from9, to9, ballot9, name9, attempt9, epoch9, mark9, size9, what9, .slice aw9 who9.length cw9, .slice an9 names9.length cn9, .slice ad9 data9.length cd9, who9, names9, data9⟩ : Ms) = x := (putM_con HC7.out).trans k2
        have HOK := Hid.mk' hok
        have HPT := Hid.mk' hpt
        clear k1 k2 hok hpt H10 l8 n8 c8 l10 n10 c10
        obtain ⟨l8, n8, c8⟩ := Holds.frzFacts (H11) hb8
        go_wp2_with fail
        refine (rmput_ok (⟨kind9, from9, to9, ballot9, name9, attempt9, epoch9, mark9, size9, what9, .slice aw9 who9.length cw9, .slice an9 names9.length cn9, .slice ad9 data9.length cd9, who9, names9, data9⟩ : Ms) H11 HMR.out HMZ.out HOK.out).mono ?_
        rintro e w12 ⟨o12, rfl, H12⟩
        rw [HPT.out] at H12
        have hsp := same_spec H12.rowRd (Rd.world HX.out H12) HXL.out HXL.out
        obtain ⟨a12, c12, rfl⟩ := H12.rowRd.form
        clear H11 l8 n8 c8
        go_wp2_with fail
        refine hsp.mono ?_
        rintro e w13 ⟨rfl, q, rfl⟩
        have H13 := H12.drop.drewN q
        simp only [decide_true]
        generalize (World.drewN _ _) = w13 at H13 ⊢
        clear hsp H12
        go_wp2_with fail
        go_roundw
        case rel => exact ⟨j + 1, R10, by go_num, hlt, leB, H13⟩
        case measure => simp [intOf]; omega
      · go_wp2_with fail
        refine (same25_spec (⟨kind9, from9, to9, ballot9, name9, attempt9, epoch9, mark9, size9, what9, .slice aw9 who9.length cw9, .slice an9 names9.length cn9, .slice ad9 data9.length cd9, who9, names9, data9⟩ : Ms) (⟨kind', from', to', ballot', name', attempt', epoch', mark', size', what', .slice aw' who'.length cw', .slice an' names'.length cn', .slice ad' data'.length cd', who', names', data'⟩ : Ms) H10 HMR.out HMZ.out HMR2.out HMZ2.out).mono ?_
        rintro e w11 ⟨rfl, H11⟩
        rw [HSM.out]
        clear H10 l8 n8 c8 l10 n10 c10
        go_wp2_with fail
        go_roundw
        case rel => exact ⟨j + 1, R10, by go_num, hlt, leB, H11⟩
        case measure => simp [intOf]; omega
      · go_wp2_with fail
        refine (same25_spec (⟨kind9, from9, to9, ballot9, name9, attempt9, epoch9, mark9, size9, what9, .slice aw9 who9.length cw9, .slice an9 names9.length cn9, .slice ad9 data9.length cd9, who9, names9, data9⟩ : Ms) (⟨kind', from', to', ballot', name', attempt', epoch', mark', size', what', .slice aw' who'.length cw', .slice an' names'.length cn', .slice ad' data'.length cd', who', names', data'⟩ : Ms) H10 HMR.out HMZ.out HMR2.out HMZ2.out).mono ?_
        rintro e w11 ⟨rfl, H11⟩
        rw [HSM.out]
        clear H10 l8 n8 c8 l10 n10 c10
        go_wp2_with fail
        go_roundw
        case rel => exact ⟨j + 1, R10, by go_num, hlt, leB, H11⟩
        case measure => simp [intOf]; omega
    · have d1 : decide ((j : Int) < 2) = false := by simp; omega
      go_wp2_with fail
      refine (alive25 H6).mono ?_
      rintro e w99 ⟨rfl, H99⟩
      go_wp2_with fail
      go_ret
      exact ⟨rfl, H99.toBelow leA⟩
end Sh
