/- MsgApart: the walk. -/
import Derived.Test.YtmogagcffebbaaaMsgLaw
import Derived.Test.YtmogagcffebbaaaMsgFar
import Derived.Test.YtmogagcffebbaaaMsgRef
set_option linter.unusedVariables false
set_option linter.unusedSimpArgs false
namespace Sh
open Go Go.RowKit Go.Proofs
attribute [local go_sem ↓] Go.wp_at_zero Go.wp_at_succ
set_option maxHeartbeats 1000000
set_option maxRecDepth 100000

theorem put_apart {m x : Ms} (hm : msgOk m = true) (hx : msgOk x = true) : decide (putM m = putM x) = msSame m x := by
  by_cases h : putM m = putM x
  · rw [decide_eq_true h]
    have e : bodyB m = bodyB x := by
      have := congrArg (fun l => l.take (l.length - 4)) h
      simpa only [putM, sealB_take] using this
    have h1 := (parse_back hm).2.2
    rw [e] at h1
    exact (msSame_con (h1.symm.trans (parse_back hx).2.2)).symm
  · rw [decide_eq_false h]
    exact msSame_false fun hc => h (putM_con hc)
set_option maxHeartbeats 8000000
theorem msgApart_walk (W : World) {m x : Ms} (hm : m.Rd W.cell? ∧ m.name.size ≤ maxLen ∧ ∀ s ∈ m.names, s.size ≤ maxLen) (hx : x.Rd W.cell? ∧ x.name.size ≤ maxLen ∧ ∀ s ∈ x.names, s.size ≤ maxLen) :
    Calls Try.prog 12 #[.agg m.cells.toArray, .agg x.cells.toArray] W fun e w' => e = .returned (.bool true) ∧ Below W.heap.size W w' := by
  obtain ⟨hm, hz1, hz2⟩ := hm
  obtain ⟨hx, hz3, hz4⟩ := hx
  have HM0 : Hid (m.Rd (Snap.of W).cell?) := Hid.mk' hm
  have HX0 : Hid (x.Rd (Snap.of W).cell?) := Hid.mk' hx
  have HZ := Hid.mk' (And.intro hz1 hz2)
  have HZX := Hid.mk' (And.intro hz3 hz4)
  obtain ⟨kind, from_, to_, ballot, name, attempt, epoch, mark, size, what, vw, vn, vd, who, names, data⟩ := m
  obtain ⟨hw, hn, hd⟩ := hm
  simp only at hw hn hd
  obtain ⟨aw, cw, rfl⟩ := hw.form
  obtain ⟨an, cn, rfl⟩ := hn.form
  obtain ⟨ad, cd, rfl⟩ := hd.form
  obtain ⟨kind', from', to', ballot', name', attempt', epoch', mark', size', what', vw', vn', vd', who', names', data'⟩ := x
  obtain ⟨hw', hn', hd'⟩ := hx
  simp only at hw' hn' hd'
  obtain ⟨aw', cw', rfl⟩ := hw'.form
  obtain ⟨an', cn', rfl⟩ := hn'.form
  obtain ⟨ad', cd', rfl⟩ := hd'.form
  clear hz1 hz2 hw hn hd hz3 hz4 hw' hn' hd'
  show Calls _ _ #[.agg #[.int .i64 kind, .int .i64 from_, .int .i64 to_, .int .i64 ballot, .string name, .int .i64 attempt, .int .i64 epoch, .int .i64 mark, .int .i64 size, .int .i64 what, .slice aw who.length cw, .slice an names.length cn, .slice ad data.length cd], .agg #[.int .i64 kind', .int .i64 from', .int .i64 to', .int .i64 ballot', .string name', .int .i64 attempt', .int .i64 epoch', .int .i64 mark', .int .i64 size', .int .i64 what', .slice aw' who'.length cw', .slice an' names'.length cn', .slice ad' data'.length cd']] _ _
  obtain ⟨R1, le1, H1, hb1⟩ := (Holds.start W).allocR (.cells #[.int .i64 kind, .int .i64 from_, .int .i64 to_, .int .i64 ballot, .string name, .int .i64 attempt, .int .i64 epoch, .int .i64 mark, .int .i64 size, .int .i64 what, .slice aw who.length cw, .slice an names.length cn, .slice ad data.length cd] tMsg (0, 0))
  obtain ⟨R2, le2, H2, hb2⟩ := H1.allocR (.cells #[.int .i64 kind', .int .i64 from', .int .i64 to', .int .i64 ballot', .string name', .int .i64 attempt', .int .i64 epoch', .int .i64 mark', .int .i64 size', .int .i64 what', .slice aw' who'.length cw', .slice an' names'.length cn', .slice ad' data'.length cd'] tMsg (0, 0))
  replace hb1 := le2.blk _ _ hb1
  have leA := le1.trans le2
  have HM := Hid.mk' (HM0.out.le leA)
  have HX := Hid.mk' (HX0.out.le leA)
  simp only [World.size_alloc] at hb2
  clear H1
  go_enter Try.func12, Try.ntmps12
  go_upto_region 1 with fail
  generalize (World.alloc ..) = w1 at H2 ⊢
  generalize W.heap.size + 1 = g2 at hb2 ⊢
  generalize hg : W.heap.size = g at hb1 ⊢
  obtain ⟨l1, n1, c1⟩ := Holds.frzFacts (H2) hb1
  obtain ⟨l2, n2, c2⟩ := Holds.frzFacts (H2) hb2
  go_wp2_with fail
  refine (far25_spec (⟨kind, from_, to_, ballot, name, attempt, epoch, mark, size, what, .slice aw who.length cw, .slice an names.length cn, .slice ad data.length cd, who, names, data⟩ : Ms) H2 HM.out HZ.out.1 HZ.out.2).mono ?_
  rintro e w5 ⟨b, rfl, hsm, H5⟩
  clear H2 l1 n1 c1 l2 n2 c2
  cases b with
  | true =>
    go_wp2_with fail
    refine (alive25 H5).mono ?_
    rintro e w99 ⟨rfl, H99⟩
    go_wp2_with fail
    go_ret
    exact ⟨rfl, hg ▸ H99.toBelow (leA)⟩
  | false =>
  have HSZ : Hid (Ms.Sz (⟨kind, from_, to_, ballot, name, attempt, epoch, mark, size, what, .slice aw who.length cw, .slice an names.length cn, .slice ad data.length cd, who, names, data⟩ : Ms)) := Hid.mk' ((hsm rfl).Sz HZ.out.1 HZ.out.2)
  clear hsm
  obtain ⟨l2, n2, c2⟩ := Holds.frzFacts (H5) hb2
  go_wp2_with fail
  refine (far25_spec (⟨kind', from', to', ballot', name', attempt', epoch', mark', size', what', .slice aw' who'.length cw', .slice an' names'.length cn', .slice ad' data'.length cd', who', names', data'⟩ : Ms) H5 HX.out HZX.out.1 HZX.out.2).mono ?_
  rintro e w6 ⟨b, rfl, hsm, H6⟩
  clear H5 l2 n2 c2
  cases b with
  | true =>
    go_wp2_with fail
    refine (alive25 H6).mono ?_
    rintro e w99 ⟨rfl, H99⟩
    go_wp2_with fail
    go_ret
    exact ⟨rfl, hg ▸ H99.toBelow (leA)⟩
  | false =>
  have HSX : Hid (Ms.Sz (⟨kind', from', to', ballot', name', attempt', epoch', mark', size', what', .slice aw' who'.length cw', .slice an' names'.length cn', .slice ad' data'.length cd', who', names', data'⟩ : Ms)) := Hid.mk' ((hsm rfl).Sz HZX.out.1 HZX.out.2)
  clear hsm
  obtain ⟨l1, n1, c1⟩ := Holds.frzFacts (H6) hb1
  go_wp2_with fail
  refine (rright25_spec (⟨kind, from_, to_, ballot, name, attempt, epoch, mark, size, what, .slice aw who.length cw, .slice an names.length cn, .slice ad data.length cd, who, names, data⟩ : Ms) H6 HM.out HSZ.out).mono ?_
  rintro e w7 ⟨rfl, H7⟩
  clear H6 l1 n1 c1
  cases hok : msgOk (⟨kind, from_, to_, ballot, name, attempt, epoch, mark, size, what, .slice aw who.length cw, .slice an names.length cn, .slice ad data.length cd, who, names, data⟩ : Ms) with
  | false =>
    go_wp2_with fail
    refine (alive25 H7).mono ?_
    rintro e w99 ⟨rfl, H99⟩
    go_wp2_with fail
    go_ret
    exact ⟨rfl, hg ▸ H99.toBelow (leA)⟩
  | true =>
  have HOK := Hid.mk' hok
  clear hok
  obtain ⟨l2, n2, c2⟩ := Holds.frzFacts (H7) hb2
  go_wp2_with fail
  refine (rright25_spec (⟨kind', from', to', ballot', name', attempt', epoch', mark', size', what', .slice aw' who'.length cw', .slice an' names'.length cn', .slice ad' data'.length cd', who', names', data'⟩ : Ms) H7 HX.out HSX.out).mono ?_
  rintro e w8 ⟨rfl, H8⟩
  clear H7 l2 n2 c2
  cases hok : msgOk (⟨kind', from', to', ballot', name', attempt', epoch', mark', size', what', .slice aw' who'.length cw', .slice an' names'.length cn', .slice ad' data'.length cd', who', names', data'⟩ : Ms) with
  | false =>
    go_wp2_with fail
    refine (alive25 H8).mono ?_
    rintro e w99 ⟨rfl, H99⟩
    go_wp2_with fail
    go_ret
    exact ⟨rfl, hg ▸ H99.toBelow (leA)⟩
  | true =>
  have HOX := Hid.mk' hok
  clear hok
  go_wp2_with fail
  refine (new_crc H8).mono ?_
  rintro e w9 ⟨p, rfl, H9⟩
  obtain ⟨R3, le3, H10, hT⟩ := H9.freezeBlk
  replace hb1 := le3.blk _ _ hb1
  replace hb2 := le3.blk _ _ hb2
  replace leA := leA.trans le3
  replace HM := Hid.mk' (HM.out.le le3)
  replace HX := Hid.mk' (HX.out.le le3)
  clear H8 H9 le1 le2 le3
  obtain ⟨l1, n1, c1⟩ := Holds.frzFacts (H10) hb1
  go_wp2_with fail
  refine (mput_ok (⟨kind, from_, to_, ballot, name, attempt, epoch, mark, size, what, .slice aw who.length cw, .slice an names.length cn, .slice ad data.length cd, who, names, data⟩ : Ms) H10 hT HM.out HSZ.out HOK.out).mono ?_
  rintro e w11 ⟨o, rfl, H11⟩
  obtain ⟨R4, le4, H12, hr⟩ := H11.freezeRow
  have HA := Hid.mk' hr
  replace hb1 := le4.blk _ _ hb1
  replace hb2 := le4.blk _ _ hb2
  replace hT := le4.blk _ _ hT
  replace leA := leA.trans le4
  replace HM := Hid.mk' (HM.out.le le4)
  replace HX := Hid.mk' (HX.out.le le4)
  obtain ⟨aa, ca, rfl⟩ := hr.form
  clear H10 l1 n1 c1 H11 hr le4
  obtain ⟨l2, n2, c2⟩ := Holds.frzFacts (H12) hb2
  go_wp2_with fail
  refine (mput_ok (⟨kind', from', to', ballot', name', attempt', epoch', mark', size', what', .slice aw' who'.length cw', .slice an' names'.length cn', .slice ad' data'.length cd', who', names', data'⟩ : Ms) H12 hT HX.out HSX.out HOX.out).mono ?_
  rintro e w13 ⟨o, rfl, H13⟩
  obtain ⟨R5, le5, H14, hr⟩ := H13.freezeRow
  have HB := Hid.mk' hr
  replace HA := Hid.mk' (Rd.le HA.out le5)
  replace hb1 := le5.blk _ _ hb1
  replace hb2 := le5.blk _ _ hb2
  replace leA := leA.trans le5
  replace HM := Hid.mk' (HM.out.le le5)
  replace HX := Hid.mk' (HX.out.le le5)
  obtain ⟨ab, cb, rfl⟩ := hr.form
  clear H12 l2 n2 c2 H13 hr le5 hT
  have HL1 := Hid.mk' (put_len HOK.out)
  have HL2 := Hid.mk' (put_len HOX.out)
  obtain ⟨y, hy⟩ : ∃ y, y = msSame (⟨kind, from_, to_, ballot, name, attempt, epoch, mark, size, what, .slice aw who.length cw, .slice an names.length cn, .slice ad data.length cd, who, names, data⟩ : Ms) (⟨kind', from', to', ballot', name', attempt', epoch', mark', size', what', .slice aw' who'.length cw', .slice an' names'.length cn', .slice ad' data'.length cd', who', names', data'⟩ : Ms) := ⟨_, rfl⟩
  have HE := Hid.mk' ((put_apart HOK.out HOX.out).trans hy.symm)
  have HY := Hid.mk' hy
  clear hy
  obtain ⟨l1, n1, c1⟩ := Holds.frzFacts (H14) hb1
  obtain ⟨l2, n2, c2⟩ := Holds.frzFacts (H14) hb2
  go_upto_region 6 with fail
  cases y
  all_goals
    go_region_held3 (fun w' => (∀ o, w'.cell? ⟨g, o, none⟩ = #[.int .i64 kind, .int .i64 from_, .int .i64 to_, .int .i64 ballot, .string name, .int .i64 attempt, .int .i64 epoch, .int .i64 mark, .int .i64 size, .int .i64 what, .slice aw who.length cw, .slice an names.length cn, .slice ad data.length cd][o]?) ∧ (∀ o, w'.cell? ⟨g2, o, none⟩ = #[.int .i64 kind', .int .i64 from', .int .i64 to', .int .i64 ballot', .string name', .int .i64 attempt', .int .i64 epoch', .int .i64 mark', .int .i64 size', .int .i64 what', .slice aw' who'.length cw', .slice an' names'.length cn', .slice ad' data'.length cd'][o]?)) (first | (exact And.intro (H23.frz hb1) (H23.frz hb2)) | (exact And.intro (H22.frz hb1) (H22.frz hb2)) | (exact And.intro (H21.frz hb1) (H21.frz hb2)) | ((repeat' (first | assumption | (with_reducible refine And.intro ?_ ?_) | (with_reducible refine keep_drew ?_) | (with_reducible refine keep_drewN ?_) | (with_reducible refine keep_alloc ?_ (by first | assumption | (simp only [World.size_alloc, World.size_drew, World.size_setCell]; omega))) | (with_reducible refine keep_set ?_ (by first | assumption | omega)))))) (first | (go_at_call 27; refine (same_spec (Rd.world HA.out H14.drew) (Rd.world HB.out H14.drew) HL1.out HL2.out).mono ?_; rintro e w21 ⟨rfl, q, rfl⟩; have H21 := H14.drewN (1 + q); rw [HE.out]) | (go_at_call 50; refine (alive25 H22).mono ?_; rintro e w23 ⟨rfl, H23⟩) | (go_at_call 41; refine (same25_spec (⟨kind, from_, to_, ballot, name, attempt, epoch, mark, size, what, .slice aw who.length cw, .slice an names.length cn, .slice ad data.length cd, who, names, data⟩ : Ms) (⟨kind', from', to', ballot', name', attempt', epoch', mark', size', what', .slice aw' who'.length cw', .slice an' names'.length cn', .slice ad' data'.length cd', who', names', data'⟩ : Ms) H21 HM.out HSZ.out HX.out HSX.out).mono ?_; rintro e w22 ⟨rfl, H22⟩; rw [← HY.out]))
    go_wp2_with fail
    go_ret
    exact ⟨rfl, hg ▸ H23.toBelow leA⟩
end Sh
