/- MsgPuts: the walk. -/
import Derived.Test.YtmogagcffebbaaaMsgLaw
import Derived.Test.YtmogagcffebbaaaMsgRPut
import Derived.Test.YtmogagcffebbaaaMsgFar
import Derived.Test.YtmogagcffebbaaaMsgRef
set_option linter.unusedVariables false
set_option linter.unusedSimpArgs false
namespace Sh
open Go Go.RowKit Go.Proofs
attribute [local go_sem ↓] Go.wp_at_zero Go.wp_at_succ
set_option maxHeartbeats 1000000
set_option maxRecDepth 100000

set_option maxHeartbeats 8000000
theorem msgPuts_walk (W : World) {m x : Ms} (hm : m.Rd W.cell? ∧ m.name.size ≤ maxLen ∧ ∀ s ∈ m.names, s.size ≤ maxLen) (hx : x.Rd W.cell? ∧ x.name.size ≤ maxLen ∧ ∀ s ∈ x.names, s.size ≤ maxLen) :
    Calls Try.prog 9 #[.agg m.cells.toArray, .agg x.cells.toArray] W fun e w' => e = .returned (.bool true) ∧ Below W.heap.size W w' := by
  obtain ⟨hm, hz1, hz2⟩ := hm
  obtain ⟨hx, hz3, hz4⟩ := hx
  have HM0 : Hid (m.Rd (Snap.of W).cell?) := Hid.mk' hm
  have HX0 : Hid (x.Rd (Snap.of W).cell?) := Hid.mk' hx
  have HZ := Hid.mk' (And.intro hz1 hz2)
  have HZX := Hid.mk' (And.intro hz3 hz4)
  obtain ⟨kind, from_, to_, ballot, name, attempt, epoch, mark, size, what, vw, vn, vd, who, names, data⟩ := m
  obtain ⟨hw, hn, hd⟩ := hm
  simp only at hw hn hd
  obtain ⟨aw, cw, rfl⟩ := hw.form
  obtain ⟨an, cn, rfl⟩ := hn.form
  obtain ⟨ad, cd, rfl⟩ := hd.form
  obtain ⟨kind', from', to', ballot', name', attempt', epoch', mark', size', what', vw', vn', vd', who', names', data'⟩ := x
  obtain ⟨hw', hn', hd'⟩ := hx
  simp only at hw' hn' hd'
  obtain ⟨aw', cw', rfl⟩ := hw'.form
  obtain ⟨an', cn', rfl⟩ := hn'.form
  obtain ⟨ad', cd', rfl⟩ := hd'.form
  clear hz1 hz2 hw hn hd hz3 hz4 hw' hn' hd'
  show Calls _ _ #[.agg #[.int .i64 kind, .int .i64 from_, .int .i64 to_, .int .i64 ballot, .string name, .int .i64 attempt, .int .i64 epoch, .int .i64 mark, .int .i64 size, .int .i64 what, .slice aw who.length cw, .slice an names.length cn, .slice ad data.length cd], .agg #[.int .i64 kind', .int .i64 from', .int .i64 to', .int .i64 ballot', .string name', .int .i64 attempt', .int .i64 epoch', .int .i64 mark', .int .i64 size', .int .i64 what', .slice aw' who'.length cw', .slice an' names'.length cn', .slice ad' data'.length cd']] _ _
  obtain ⟨R1, le1, H1, hb1⟩ := (Holds.start W).allocR (.cells #[.int .i64 kind, .int .i64 from_, .int .i64 to_, .int .i64 ballot, .string name, .int .i64 attempt, .int .i64 epoch, .int .i64 mark, .int .i64 size, .int .i64 what, .slice aw who.length cw, .slice an names.length cn, .slice ad data.length cd] tMsg (0, 0))
  obtain ⟨R2, le2, H2, hb2⟩ := H1.allocR (.cells #[.int .i64 kind', .int .i64 from', .int .i64 to', .int .i64 ballot', .string name', .int .i64 attempt', .int .i64 epoch', .int .i64 mark', .int .i64 size', .int .i64 what', .slice aw' who'.length cw', .slice an' names'.length cn', .slice ad' data'.length cd'] tMsg (0, 0))
  replace hb1 := le2.blk _ _ hb1
  have leA := le1.trans le2
  have HM := Hid.mk' (HM0.out.le leA)
  have HX := Hid.mk' (HX0.out.le leA)
  simp only [World.size_alloc] at hb2
  clear H1
  go_enter Try.func9, Try.ntmps9
  go_upto_region 1 with fail
  generalize (World.alloc ..) = w1 at H2 ⊢
  generalize W.heap.size + 1 = g2 at hb2 ⊢
  generalize hg : W.heap.size = g at hb1 ⊢
  obtain ⟨l1, n1, c1⟩ := Holds.frzFacts (H2) hb1
  obtain ⟨l2, n2, c2⟩ := Holds.frzFacts (H2) hb2
  go_wp2_with fail
  refine (far25_spec (⟨kind, from_, to_, ballot, name, attempt, epoch, mark, size, what, .slice aw who.length cw, .slice an names.length cn, .slice ad data.length cd, who, names, data⟩ : Ms) H2 HM.out HZ.out.1 HZ.out.2).mono ?_
  rintro e w5 ⟨b, rfl, hsm, H5⟩
  clear H2 l1 n1 c1 l2 n2 c2
  cases b with
  | true =>
    go_wp2_with fail
    refine (alive25 H5).mono ?_
    rintro e w99 ⟨rfl, H99⟩
    go_wp2_with fail
    go_ret
    exact ⟨rfl, hg ▸ H99.toBelow (leA)⟩
  | false =>
  have HSZ : Hid (Ms.Sz (⟨kind, from_, to_, ballot, name, attempt, epoch, mark, size, what, .slice aw who.length cw, .slice an names.length cn, .slice ad data.length cd, who, names, data⟩ : Ms)) := Hid.mk' ((hsm rfl).Sz HZ.out.1 HZ.out.2)
  clear hsm
  obtain ⟨l2, n2, c2⟩ := Holds.frzFacts (H5) hb2
  go_wp2_with fail
  refine (far25_spec (⟨kind', from', to', ballot', name', attempt', epoch', mark', size', what', .slice aw' who'.length cw', .slice an' names'.length cn', .slice ad' data'.length cd', who', names', data'⟩ : Ms) H5 HX.out HZX.out.1 HZX.out.2).mono ?_
  rintro e w6 ⟨b, rfl, hsm, H6⟩
  clear H5 l2 n2 c2
  cases b with
  | true =>
    go_wp2_with fail
    refine (alive25 H6).mono ?_
    rintro e w99 ⟨rfl, H99⟩
    go_wp2_with fail
    go_ret
    exact ⟨rfl, hg ▸ H99.toBelow (leA)⟩
  | false =>
  have HSX : Hid (Ms.Sz (⟨kind', from', to', ballot', name', attempt', epoch', mark', size', what', .slice aw' who'.length cw', .slice an' names'.length cn', .slice ad' data'.length cd', who', names', data'⟩ : Ms)) := Hid.mk' ((hsm rfl).Sz HZX.out.1 HZX.out.2)
  clear hsm
  go_wp2_with fail
  refine (new_crc H6).mono ?_
  rintro e w7 ⟨p, rfl, H7⟩
  obtain ⟨R3, le3, H8, hT⟩ := H7.freezeBlk
  replace hb1 := le3.blk _ _ hb1
  replace hb2 := le3.blk _ _ hb2
  replace leA := leA.trans le3
  replace HM := Hid.mk' (HM.out.le le3)
  replace HX := Hid.mk' (HX.out.le le3)
  clear H6 H7 le1 le2 le3
  obtain ⟨l1, n1, c1⟩ := Holds.frzFacts (H8) hb1
  obtain ⟨ok, hok⟩ : ∃ ok, ok = msgOk (⟨kind, from_, to_, ballot, name, attempt, epoch, mark, size, what, .slice aw who.length cw, .slice an names.length cn, .slice ad data.length cd, who, names, data⟩ : Ms) := ⟨_, rfl⟩
  have HOK := Hid.mk' hok.symm
  clear hok
  cases ok with
  | false =>
    go_wp2_with fail
    refine (mput_bad (⟨kind, from_, to_, ballot, name, attempt, epoch, mark, size, what, .slice aw who.length cw, .slice an names.length cn, .slice ad data.length cd, who, names, data⟩ : Ms) H8 HM.out HSZ.out HOK.out).mono ?_
    rintro e w9 ⟨rfl, H9⟩
    clear H8 l1 n1 c1
    obtain ⟨l1, n1, c1⟩ := Holds.frzFacts (H9) hb1
    go_wp2_with fail
    refine (rright25_spec (⟨kind, from_, to_, ballot, name, attempt, epoch, mark, size, what, .slice aw who.length cw, .slice an names.length cn, .slice ad data.length cd, who, names, data⟩ : Ms) H9 HM.out HSZ.out).mono ?_
    rintro e w10 ⟨rfl, H10⟩
    rw [HOK.out]
    clear H9 l1 n1 c1
    obtain ⟨R4, hR4⟩ : ∃ R4, R4 = R3 := ⟨_, rfl⟩
    subst hR4
    obtain ⟨l1, n1, c1⟩ := Holds.frzFacts (H10) hb1
    obtain ⟨l2, n2, c2⟩ := Holds.frzFacts (H10) hb2
    go_upto_region 6 with fail
    go_cut [45] (fun c wx => c = .bool false ∧ Holds wx R4 (emp))
    case first =>
      obtain ⟨y, hy⟩ : ∃ y, y = msSame (⟨kind, from_, to_, ballot, name, attempt, epoch, mark, size, what, .slice aw who.length cw, .slice an names.length cn, .slice ad data.length cd, who, names, data⟩ : Ms) (⟨kind', from', to', ballot', name', attempt', epoch', mark', size', what', .slice aw' who'.length cw', .slice an' names'.length cn', .slice ad' data'.length cd', who', names', data'⟩ : Ms) := ⟨_, rfl⟩
      have HY := Hid.mk' hy
      clear hy
      cases y
      all_goals
        go_region_held3 (fun w' => (∀ o, w'.cell? ⟨g, o, none⟩ = #[.int .i64 kind, .int .i64 from_, .int .i64 to_, .int .i64 ballot, .string name, .int .i64 attempt, .int .i64 epoch, .int .i64 mark, .int .i64 size, .int .i64 what, .slice aw who.length cw, .slice an names.length cn, .slice ad data.length cd][o]?) ∧ (∀ o, w'.cell? ⟨g2, o, none⟩ = #[.int .i64 kind', .int .i64 from', .int .i64 to', .int .i64 ballot', .string name', .int .i64 attempt', .int .i64 epoch', .int .i64 mark', .int .i64 size', .int .i64 what', .slice aw' who'.length cw', .slice an' names'.length cn', .slice ad' data'.length cd'][o]?)) (first | (exact And.intro (H24.frz hb1) (H24.frz hb2)) | (exact And.intro (H23.frz hb1) (H23.frz hb2)) | (exact And.intro (H22.frz hb1) (H22.frz hb2)) | (exact And.intro (H21.frz hb1) (H21.frz hb2)) | ((repeat' (first | assumption | (with_reducible refine And.intro ?_ ?_) | (with_reducible refine keep_drew ?_) | (with_reducible refine keep_drewN ?_) | (with_reducible refine keep_alloc ?_ (by first | assumption | (simp only [World.size_alloc, World.size_drew, World.size_setCell]; omega))) | (with_reducible refine keep_set ?_ (by first | assumption | omega)))))) (first | (go_at_call 53; refine (right25_spec (⟨kind, from_, to_, ballot, name, attempt, epoch, mark, size, what, .slice aw who.length cw, .slice an names.length cn, .slice ad data.length cd, who, names, data⟩ : Ms) H10.drew (fun w' h => HM.out.world h) HSZ.out).mono ?_; rintro e w21 ⟨rfl, H21⟩; rw [HOK.out]) | (go_at_call 41; refine (same25_spec (⟨kind, from_, to_, ballot, name, attempt, epoch, mark, size, what, .slice aw who.length cw, .slice an names.length cn, .slice ad data.length cd, who, names, data⟩ : Ms) (⟨kind', from', to', ballot', name', attempt', epoch', mark', size', what', .slice aw' who'.length cw', .slice an' names'.length cn', .slice ad' data'.length cd', who', names', data'⟩ : Ms) H22 HM.out HSZ.out HX.out HSX.out).mono ?_; rintro e w23 ⟨rfl, H23⟩; rw [← HY.out]) | (go_at_call 54; first | (refine (msame_spec (⟨kind, from_, to_, ballot, name, attempt, epoch, mark, size, what, .slice aw who.length cw, .slice an names.length cn, .slice ad data.length cd, who, names, data⟩ : Ms) (⟨kind, from_, to_, ballot, name, attempt, epoch, mark, size, what, .slice aw who.length cw, .slice an names.length cn, .slice ad data.length cd, who, names, data⟩ : Ms) H23 HM.out HSZ.out HM.out HSZ.out).mono ?_; rintro e w24 ⟨rfl, H24⟩; rw [msSame_con rfl]) | (refine (msame_spec (⟨kind, from_, to_, ballot, name, attempt, epoch, mark, size, what, .slice aw who.length cw, .slice an names.length cn, .slice ad data.length cd, who, names, data⟩ : Ms) (⟨kind', from', to', ballot', name', attempt', epoch', mark', size', what', .slice aw' who'.length cw', .slice an' names'.length cn', .slice ad' data'.length cd', who', names', data'⟩ : Ms) H21 HM.out HSZ.out HX.out HSX.out).mono ?_; rintro e w22 ⟨rfl, H22⟩; rw [← HY.out])))
        go_wp2_with fail
        go_meet
        case rel => exact ⟨rfl, H24⟩
    clear H10
    obtain ⟨rfl, H10⟩ := hcut
    clear l1 n1 c1 l2 n2 c2
    obtain ⟨l1, n1, c1⟩ := Holds.frzFacts (H10) hb1
    go_wp2_with fail
    refine (msize_spec (⟨kind, from_, to_, ballot, name, attempt, epoch, mark, size, what, .slice aw who.length cw, .slice an names.length cn, .slice ad data.length cd, who, names, data⟩ : Ms) H10 HM.out HSZ.out).mono ?_
    rintro e w12 ⟨rfl, H12⟩
    rw [if_neg (by rw [HOK.out]; decide)]
    clear H10 l1 n1 c1
    go_wp2_with fail
    refine (alive25 H12).mono ?_
    rintro e w99 ⟨rfl, H99⟩
    go_wp2_with fail
    go_ret
    exact ⟨rfl, hg ▸ H99.toBelow (leA)⟩
  | true =>
    go_wp2_with fail
    refine (mput_ok (⟨kind, from_, to_, ballot, name, attempt, epoch, mark, size, what, .slice aw who.length cw, .slice an names.length cn, .slice ad data.length cd, who, names, data⟩ : Ms) H8 hT HM.out HSZ.out HOK.out).mono ?_
    rintro e w9 ⟨o, rfl, H9⟩
    obtain ⟨R4, le4, H9f, hr9⟩ := H9.freezeRow
    obtain ⟨N, hN⟩ : ∃ N, N = (putM (⟨kind, from_, to_, ballot, name, attempt, epoch, mark, size, what, .slice aw who.length cw, .slice an names.length cn, .slice ad data.length cd, who, names, data⟩ : Ms)).length := ⟨_, rfl⟩
    replace hr9 : Rd R4.cell? 1 o N (u8s (putM (⟨kind, from_, to_, ballot, name, attempt, epoch, mark, size, what, .slice aw who.length cw, .slice an names.length cn, .slice ad data.length cd, who, names, data⟩ : Ms))) := by rw [hN]; exact hr9
    obtain ⟨ab, cb, rfl⟩ := hr9.form
    have HR9 : Hid (RdB R4.cell? (.slice ab N cb) (putM (⟨kind, from_, to_, ballot, name, attempt, epoch, mark, size, what, .slice aw who.length cw, .slice an names.length cn, .slice ad data.length cd, who, names, data⟩ : Ms))) := Hid.mk' (by unfold RdB; rw [← hN]; exact hr9)
    have HN := Hid.mk' hN
    have hpl := put_len HOK.out
    rw [← hN] at hpl
    replace hb1 := le4.blk _ _ hb1
    replace hb2 := le4.blk _ _ hb2
    replace hT := le4.blk _ _ hT
    replace leA := leA.trans le4
    replace HM := Hid.mk' (HM.out.le le4)
    replace HX := Hid.mk' (HX.out.le le4)
    clear H8 l1 n1 c1 H9 hr9 hN le4
    obtain ⟨l1, n1, c1⟩ := Holds.frzFacts (H9f) hb1
    go_wp2_with fail
    refine (rright25_spec (⟨kind, from_, to_, ballot, name, attempt, epoch, mark, size, what, .slice aw who.length cw, .slice an names.length cn, .slice ad data.length cd, who, names, data⟩ : Ms) H9f HM.out HSZ.out).mono ?_
    rintro e w10 ⟨rfl, H10⟩
    rw [HOK.out]
    clear H9f l1 n1 c1
    obtain ⟨l1, n1, c1⟩ := Holds.frzFacts (H10) hb1
    obtain ⟨l2, n2, c2⟩ := Holds.frzFacts (H10) hb2
    go_upto_region 6 with fail
    go_cut [45] (fun c wx => c = .bool false ∧ Holds wx R4 (emp))
    case first =>
      obtain ⟨y, hy⟩ : ∃ y, y = msSame (⟨kind, from_, to_, ballot, name, attempt, epoch, mark, size, what, .slice aw who.length cw, .slice an names.length cn, .slice ad data.length cd, who, names, data⟩ : Ms) (⟨kind', from', to', ballot', name', attempt', epoch', mark', size', what', .slice aw' who'.length cw', .slice an' names'.length cn', .slice ad' data'.length cd', who', names', data'⟩ : Ms) := ⟨_, rfl⟩
      have HY := Hid.mk' hy
      clear hy
      cases y
      all_goals
        go_region_held3 (fun w' => (∀ o, w'.cell? ⟨g, o, none⟩ = #[.int .i64 kind, .int .i64 from_, .int .i64 to_, .int .i64 ballot, .string name, .int .i64 attempt, .int .i64 epoch, .int .i64 mark, .int .i64 size, .int .i64 what, .slice aw who.length cw, .slice an names.length cn, .slice ad data.length cd][o]?) ∧ (∀ o, w'.cell? ⟨g2, o, none⟩ = #[.int .i64 kind', .int .i64 from', .int .i64 to', .int .i64 ballot', .string name', .int .i64 attempt', .int .i64 epoch', .int .i64 mark', .int .i64 size', .int .i64 what', .slice aw' who'.length cw', .slice an' names'.length cn', .slice ad' data'.length cd'][o]?)) (first | (exact And.intro (H24.frz hb1) (H24.frz hb2)) | (exact And.intro (H23.frz hb1) (H23.frz hb2)) | (exact And.intro (H22.frz hb1) (H22.frz hb2)) | (exact And.intro (H21.frz hb1) (H21.frz hb2)) | ((repeat' (first | assumption | (with_reducible refine And.intro ?_ ?_) | (with_reducible refine keep_drew ?_) | (with_reducible refine keep_drewN ?_) | (with_reducible refine keep_alloc ?_ (by first | assumption | (simp only [World.size_alloc, World.size_drew, World.size_setCell]; omega))) | (with_reducible refine keep_set ?_ (by first | assumption | omega)))))) (first | (go_at_call 53; refine (right25_spec (⟨kind, from_, to_, ballot, name, attempt, epoch, mark, size, what, .slice aw who.length cw, .slice an names.length cn, .slice ad data.length cd, who, names, data⟩ : Ms) H10.drew (fun w' h => HM.out.world h) HSZ.out).mono ?_; rintro e w21 ⟨rfl, H21⟩; rw [HOK.out]) | (go_at_call 41; refine (same25_spec (⟨kind, from_, to_, ballot, name, attempt, epoch, mark, size, what, .slice aw who.length cw, .slice an names.length cn, .slice ad data.length cd, who, names, data⟩ : Ms) (⟨kind', from', to', ballot', name', attempt', epoch', mark', size', what', .slice aw' who'.length cw', .slice an' names'.length cn', .slice ad' data'.length cd', who', names', data'⟩ : Ms) H22 HM.out HSZ.out HX.out HSX.out).mono ?_; rintro e w23 ⟨rfl, H23⟩; rw [← HY.out]) | (go_at_call 54; first | (refine (msame_spec (⟨kind, from_, to_, ballot, name, attempt, epoch, mark, size, what, .slice aw who.length cw, .slice an names.length cn, .slice ad data.length cd, who, names, data⟩ : Ms) (⟨kind, from_, to_, ballot, name, attempt, epoch, mark, size, what, .slice aw who.length cw, .slice an names.length cn, .slice ad data.length cd, who, names, data⟩ : Ms) H23 HM.out HSZ.out HM.out HSZ.out).mono ?_; rintro e w24 ⟨rfl, H24⟩; rw [msSame_con rfl]) | (refine (msame_spec (⟨kind, from_, to_, ballot, name, attempt, epoch, mark, size, what, .slice aw who.length cw, .slice an names.length cn, .slice ad data.length cd, who, names, data⟩ : Ms) (⟨kind', from', to', ballot', name', attempt', epoch', mark', size', what', .slice aw' who'.length cw', .slice an' names'.length cn', .slice ad' data'.length cd', who', names', data'⟩ : Ms) H21 HM.out HSZ.out HX.out HSX.out).mono ?_; rintro e w22 ⟨rfl, H22⟩; rw [← HY.out])))
        go_wp2_with fail
        go_meet
        case rel => exact ⟨rfl, H24⟩
    clear H10
    obtain ⟨rfl, H10⟩ := hcut
    clear l1 n1 c1 l2 n2 c2
    go_wp2_with fail
    refine (mget_spec H10 hT HR9.out (by rw [← HN.out]; exact hpl)).mono ?_
    rintro e w11 ⟨R5, le5, M, rfl, hc, hMr, hMz, H11⟩
    rw [(got_put HOK.out).1]
    have HC := Hid.mk' (hc.trans (got_put HOK.out).2)
    have HMR := Hid.mk' hMr
    have HMZ := Hid.mk' hMz
    replace hb1 := le5.blk _ _ hb1
    replace leA := leA.trans le5
    replace HM := Hid.mk' (HM.out.le le5)
    replace HR9 := Hid.mk' (Rd.le HR9.out le5)
    clear H10 hc hMz le5 hT hb2
    obtain ⟨kind9, from9, to9, ballot9, name9, attempt9, epoch9, mark9, size9, what9, vw9, vn9, vd9, who9, names9, data9⟩ := M
    obtain ⟨hw9, hn9, hd9⟩ := hMr
    simp only at hw9 hn9 hd9
    obtain ⟨aw9, cw9, rfl⟩ := hw9.form
    obtain ⟨an9, cn9, rfl⟩ := hn9.form
    obtain ⟨ad9, cd9, rfl⟩ := hd9.form
    clear hw9 hn9 hd9
    obtain ⟨R7, le7, H12, hb7⟩ := H11.allocR (.cells #[.int .i64 kind9, .int .i64 from9, .int .i64 to9, .int .i64 ballot9, .string name9, .int .i64 attempt9, .int .i64 epoch9, .int .i64 mark9, .int .i64 size9, .int .i64 what9, .slice aw9 who9.length cw9, .slice an9 names9.length cn9, .slice ad9 data9.length cd9] tMsg (0, 0))
    go_upto_region 11 with fail
    generalize (World.alloc ..) = w12 at H12 ⊢
    generalize w11.heap.size = g7 at hb7 ⊢
    replace hb1 := le7.blk _ _ hb1
    replace leA := leA.trans le7
    replace HM := Hid.mk' (HM.out.le le7)
    replace HMR := Hid.mk' (HMR.out.le le7)
    replace HR9 := Hid.mk' (Rd.le HR9.out le7)
    clear H11 le7
    obtain ⟨l1, n1, c1⟩ := Holds.frzFacts (H12) hb1
    go_wp2_with fail
    refine (rmput_ok (⟨kind, from_, to_, ballot, name, attempt, epoch, mark, size, what, .slice aw who.length cw, .slice an names.length cn, .slice ad data.length cd, who, names, data⟩ : Ms) H12 HM.out HSZ.out HOK.out).mono ?_
    rintro e w13 ⟨o13, rfl, H13⟩
    clear H12 l1 n1 c1
    have hsm := same_spec (Rd.world HR9.out H13) H13.rowRd (by rw [← HN.out]; exact hpl) (by rw [← HN.out]; exact hpl)
    obtain ⟨a13, c13, rfl⟩ := H13.rowRd.form
    rw [← HN.out] at hsm
    simp only [← HN.out]
    go_wp2_with fail
    refine hsm.mono ?_
    rintro e w14 ⟨rfl, q, rfl⟩
    have H14 := H13.drewN q
    generalize (World.drewN _ _) = w14 at H14 ⊢
    simp only [decide_true]
    clear hsm H13
    obtain ⟨l1, n1, c1⟩ := Holds.frzFacts (H14) hb1
    go_wp2_with fail
    refine (msize_spec (⟨kind, from_, to_, ballot, name, attempt, epoch, mark, size, what, .slice aw who.length cw, .slice an names.length cn, .slice ad data.length cd, who, names, data⟩ : Ms) H14 HM.out HSZ.out).mono ?_
    rintro e w15 ⟨rfl, H15⟩
    rw [if_pos HOK.out, ← HN.out]
    clear H14 l1 n1 c1
    obtain ⟨l1, n1, c1⟩ := Holds.frzFacts (H15) hb1
    obtain ⟨l7, n7, c7⟩ := Holds.frzFacts (H15) hb7
    go_wp2_with fail
    refine (same25_spec (⟨kind9, from9, to9, ballot9, name9, attempt9, epoch9, mark9, size9, what9, .slice aw9 who9.length cw9, .slice an9 names9.length cn9, .slice ad9 data9.length cd9, who9, names9, data9⟩ : Ms) (⟨kind, from_, to_, ballot, name, attempt, epoch, mark, size, what, .slice aw who.length cw, .slice an names.length cn, .slice ad data.length cd, who, names, data⟩ : Ms) H15 HMR.out HMZ.out HM.out HSZ.out).mono ?_
    rintro e w16 ⟨rfl, H16⟩
    rw [msSame_con HC.out]
    go_wp2_with fail
    refine (alive25 H16.drop).mono ?_
    rintro e w99 ⟨rfl, H99⟩
    go_wp2_with fail
    go_ret
    exact ⟨rfl, hg ▸ H99.toBelow (leA)⟩
end Sh
