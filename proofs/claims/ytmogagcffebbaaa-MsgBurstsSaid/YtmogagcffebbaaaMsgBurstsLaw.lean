/- MsgBursts: the walk. -/
import Derived.Test.YtmogagcffebbaaaMsgLaw
import Derived.Test.YtmogagcffebbaaaMsgFar
import Derived.Test.YtmogagcffebbaaaMsgRef
import Derived.Test.YtmogagcffebbaaaCrcRef
set_option linter.unusedVariables false
set_option linter.unusedSimpArgs false
namespace Sh
open Go Go.RowKit Go.Proofs
attribute [local go_sem ↓] Go.wp_at_zero Go.wp_at_succ
set_option maxHeartbeats 1000000
set_option maxRecDepth 100000

theorem turn_code {m : Ms} {x : List UInt8} {first : Int} (hm : msgOk m = true) (hx : turnedB (putM m) x first) : getCode x = if decide (x = putM m) = true then 0 else 4 := by
  obtain ⟨h1, h2⟩ := hx
  have hg : goodB x = decide (x = putM m) := by
    by_cases h0 : 0 ≤ first
    · exact goodB_burst (k := first.toNat) h1 fun i hi => h2 i (by omega)
    · exact goodB_burst (k := 0) h1 fun i hi => h2 i (by omega)
  by_cases h : x = putM m
  · rw [h, decide_eq_true rfl, if_pos rfl, (got_put hm).1]
  · rw [decide_eq_false h] at hg ⊢
    rw [getCode, hg]; rfl
set_option maxHeartbeats 8000000
theorem msgBursts_walk (W : World) {m : Ms} {first k : Int} (hm : m.Rd W.cell? ∧ m.name.size ≤ maxLen ∧ ∀ s ∈ m.names, s.size ≤ maxLen) (hf : IntKind.i64.min ≤ first ∧ first ≤ IntKind.i64.max) (hk : IntKind.u32.min ≤ k ∧ k ≤ IntKind.u32.max) :
    Calls Try.prog 11 #[.agg m.cells.toArray, .int .i64 first, .int .u32 k] W fun e w' => e = .returned (.bool true) ∧ Below W.heap.size W w' := by
  obtain ⟨mask, rfl⟩ : ∃ mask : Reg, k = tn mask := ⟨BitVec.ofNat 32 k.toNat, by
    have h1 : (0 : Int) ≤ k := hk.1
    have h2 : k ≤ 4294967295 := hk.2
    unfold tn; rw [BitVec.toNat_ofNat, Nat.mod_eq_of_lt (by omega)]; omega⟩
  have HF := Hid.mk' hf
  obtain ⟨hm, hz1, hz2⟩ := hm
  have HM0 : Hid (m.Rd (Snap.of W).cell?) := Hid.mk' hm
  have HZ := Hid.mk' (And.intro hz1 hz2)
  obtain ⟨kind, from_, to_, ballot, name, attempt, epoch, mark, size, what, vw, vn, vd, who, names, data⟩ := m
  obtain ⟨hw, hn, hd⟩ := hm
  simp only at hw hn hd
  obtain ⟨aw, cw, rfl⟩ := hw.form
  obtain ⟨an, cn, rfl⟩ := hn.form
  obtain ⟨ad, cd, rfl⟩ := hd.form
  clear hz1 hz2 hw hn hd hf hk
  show Calls _ _ #[.agg #[.int .i64 kind, .int .i64 from_, .int .i64 to_, .int .i64 ballot, .string name, .int .i64 attempt, .int .i64 epoch, .int .i64 mark, .int .i64 size, .int .i64 what, .slice aw who.length cw, .slice an names.length cn, .slice ad data.length cd], _, _] _ _
  obtain ⟨R1, le1, H1, hb1⟩ := (Holds.start W).allocR (.cells #[.int .i64 kind, .int .i64 from_, .int .i64 to_, .int .i64 ballot, .string name, .int .i64 attempt, .int .i64 epoch, .int .i64 mark, .int .i64 size, .int .i64 what, .slice aw who.length cw, .slice an names.length cn, .slice ad data.length cd] tMsg (0, 0))
  have leA := le1
  have HM := Hid.mk' (HM0.out.le leA)
  obtain ⟨l1, n1, c1⟩ := Holds.frzFacts (H1) hb1
  go_enter Try.func11, Try.ntmps11
  go_wp2_with fail
  generalize (World.alloc ..) = w1 at H1 l1 n1 c1 ⊢
  generalize hg : W.heap.size = g at hb1 l1 n1 c1 ⊢
  refine (far25_spec (⟨kind, from_, to_, ballot, name, attempt, epoch, mark, size, what, .slice aw who.length cw, .slice an names.length cn, .slice ad data.length cd, who, names, data⟩ : Ms) H1 HM.out HZ.out.1 HZ.out.2).mono ?_
  rintro e w5 ⟨b, rfl, hsm, H5⟩
  clear H1 l1 n1 c1
  cases b with
  | true =>
    go_wp2_with fail
    refine (alive25 H5).mono ?_
    rintro e w99 ⟨rfl, H99⟩
    go_wp2_with fail
    go_ret
    exact ⟨rfl, hg ▸ H99.toBelow (leA)⟩
  | false =>
  have HSZ : Hid (Ms.Sz (⟨kind, from_, to_, ballot, name, attempt, epoch, mark, size, what, .slice aw who.length cw, .slice an names.length cn, .slice ad data.length cd, who, names, data⟩ : Ms)) := Hid.mk' ((hsm rfl).Sz HZ.out.1 HZ.out.2)
  clear hsm
  obtain ⟨l1, n1, c1⟩ := Holds.frzFacts (H5) hb1
  go_wp2_with fail
  refine (rright25_spec (⟨kind, from_, to_, ballot, name, attempt, epoch, mark, size, what, .slice aw who.length cw, .slice an names.length cn, .slice ad data.length cd, who, names, data⟩ : Ms) H5 HM.out HSZ.out).mono ?_
  rintro e w7 ⟨rfl, H7⟩
  clear H5 l1 n1 c1
  cases hok : msgOk (⟨kind, from_, to_, ballot, name, attempt, epoch, mark, size, what, .slice aw who.length cw, .slice an names.length cn, .slice ad data.length cd, who, names, data⟩ : Ms) with
  | false =>
    go_wp2_with fail
    refine (alive25 H7).mono ?_
    rintro e w99 ⟨rfl, H99⟩
    go_wp2_with fail
    go_ret
    exact ⟨rfl, hg ▸ H99.toBelow (leA)⟩
  | true =>
  have HOK := Hid.mk' hok
  clear hok
  go_wp2_with fail
  refine (new_crc H7).mono ?_
  rintro e w9 ⟨p, rfl, H9⟩
  obtain ⟨R3, le3, H10, hT⟩ := H9.freezeBlk
  replace hb1 := le3.blk _ _ hb1
  replace leA := leA.trans le3
  replace HM := Hid.mk' (HM.out.le le3)
  clear H7 H9 le1 le3
  obtain ⟨l1, n1, c1⟩ := Holds.frzFacts (H10) hb1
  go_wp2_with fail
  refine (mput_ok (⟨kind, from_, to_, ballot, name, attempt, epoch, mark, size, what, .slice aw who.length cw, .slice an names.length cn, .slice ad data.length cd, who, names, data⟩ : Ms) H10 hT HM.out HSZ.out HOK.out).mono ?_
  rintro e w11 ⟨o, rfl, H11⟩
  obtain ⟨R4, le4, H12, hr⟩ := H11.freezeRow
  obtain ⟨T, hT0⟩ : ∃ T, T = putM (⟨kind, from_, to_, ballot, name, attempt, epoch, mark, size, what, .slice aw who.length cw, .slice an names.length cn, .slice ad data.length cd, who, names, data⟩ : Ms) := ⟨_, rfl⟩
  have HTT := Hid.mk' hT0
  have hr : RdB R4.cell? o T := by rw [hT0]; exact hr
  have HA := Hid.mk' hr
  replace hT := le4.blk _ _ hT
  replace leA := leA.trans le4
  obtain ⟨aa, ca, rfl⟩ := hr.form
  have hl : T.length ≤ 1000000 := by rw [hT0]; exact put_len HOK.out
  have hl0 : 0 < T.length := by rw [hT0, putM, sealB_len]; omega
  have t0 : decide ((0 : Int) < (T.length : Int)) = true := by simp; omega
  have HL := Hid.mk' hl
  have HCO : Hid (∀ x, turnedB T x first → getCode x = if decide (x = T) = true then 0 else 4) := Hid.mk' (by rw [hT0]; exact fun x hx => turn_code HOK.out hx)
  clear H10 l1 n1 c1 H11 hr le4 hb1 hT0 hl
  go_wp2_with fail
  refine (turn_spec H12 HA.out HL.out HF.out).mono ?_
  rintro e w13 ⟨ox, x, rfl, hx, H13⟩
  obtain ⟨R5, le5, H14, hxr⟩ := H13.freezeRow
  replace hT := le5.blk _ _ hT
  replace HA := Hid.mk' (Rd.le HA.out le5)
  replace leA := leA.trans le5
  have hxl : x.length ≤ 1000000 := by have := hx.1; have := HL.out; omega
  have hco := HCO.out x hx
  have HXL := Hid.mk' hxl
  obtain ⟨ax, cx, rfl⟩ := hxr.form
  have HX := Hid.mk' hxr
  clear H12 H13 le5 hx hxr hxl
  go_wp2_with fail
  refine (mget_spec H14 hT HX.out HXL.out).mono ?_
  rintro e w15 ⟨R6, le6, M, rfl, hc, hMr, hMz, H15⟩
  rw [hco]
  replace HA := Hid.mk' (Rd.le HA.out le6)
  replace HX := Hid.mk' (Rd.le HX.out le6)
  replace leA := leA.trans le6
  obtain ⟨kind9, from9, to9, ballot9, name9, attempt9, epoch9, mark9, size9, what9, vw9, vn9, vd9, who9, names9, data9⟩ := M
  obtain ⟨hw9, hn9, hd9⟩ := hMr
  simp only at hw9 hn9 hd9
  obtain ⟨aw9, cw9, rfl⟩ := hw9.form
  obtain ⟨an9, cn9, rfl⟩ := hn9.form
  obtain ⟨ad9, cd9, rfl⟩ := hd9.form
  clear hw9 hn9 hd9
  clear H14 hc hMz le6 hco hT
  obtain ⟨d, hd⟩ : ∃ d, d = decide (x = T) := ⟨_, rfl⟩
  rw [← hd]
  have HD := Hid.mk' hd.symm
  clear hd
  obtain ⟨R7, le7, H16, hb7⟩ := H15.allocR (.cells #[.int .i64 kind9, .int .i64 from9, .int .i64 to9, .int .i64 ballot9, .string name9, .int .i64 attempt9, .int .i64 epoch9, .int .i64 mark9, .int .i64 size9, .int .i64 what9, .slice aw9 who9.length cw9, .slice an9 names9.length cn9, .slice ad9 data9.length cd9] tMsg (0, 0))
  replace HA := Hid.mk' (Rd.le HA.out le7)
  replace HX := Hid.mk' (Rd.le HX.out le7)
  replace leA := leA.trans le7
  clear H15 hb7 le7
  cases d
  · rw [if_neg (by decide)]
    go_upto_region 7 with fail
    generalize (World.alloc ..) = w16 at H16 ⊢
    go_wp2_with fail
    refine (same_spec (Rd.world HX.out H16) (Rd.world HA.out H16) HXL.out HL.out).mono ?_
    rintro e w17 ⟨rfl, q, rfl⟩
    have H17 := H16.drewN q
    generalize (World.drewN _ _) = w17 at H17 ⊢
    rw [HD.out]
    go_wp2_with fail
    refine (alive25 H17).mono ?_
    rintro e w99 ⟨rfl, H99⟩
    go_wp2_with fail
    go_ret
    exact ⟨rfl, hg ▸ H99.toBelow (leA)⟩
  · rw [if_pos rfl]
    go_upto_region 7 with fail
    generalize (World.alloc ..) = w16 at H16 ⊢
    go_wp2_with fail
    refine (same_spec (Rd.world HX.out H16) (Rd.world HA.out H16) HXL.out HL.out).mono ?_
    rintro e w17 ⟨rfl, q, rfl⟩
    have H17 := H16.drewN q
    generalize (World.drewN _ _) = w17 at H17 ⊢
    rw [HD.out]
    go_wp2_with fail
    refine (alive25 H17).mono ?_
    rintro e w99 ⟨rfl, H99⟩
    go_wp2_with fail
    go_ret
    exact ⟨rfl, hg ▸ H99.toBelow (leA)⟩
end Sh
