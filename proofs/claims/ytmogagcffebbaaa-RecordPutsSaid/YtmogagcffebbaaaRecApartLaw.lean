/- RecordApart: the walk. -/
import Derived.Test.YtmogagcffebbaaaRecAlive
set_option linter.unusedVariables false
set_option linter.unusedSimpArgs false
namespace Sh
open Go Go.RowKit Go.Proofs
attribute [local go_sem ↓] Go.wp_at_zero Go.wp_at_succ
set_option maxHeartbeats 1000000
set_option maxRecDepth 100000

theorem putR_apart {m x : Rc} (hm : rcOk m = true) (hx : rcOk x = true) : decide (putR m = putR x) = rcSame m x := by
  unfold rcSame
  apply decide_eq_decide.2
  constructor
  · intro h
    exact put_one hm hx (List.prefix_refl _) (by rw [h]; exact List.prefix_refl _)
  · exact putR_con
theorem putR_lens {m : Rc} {q : List (Value × List UInt8)} (h : q.map Prod.snd = putR m) : ∀ x ∈ q, x.2.length ≤ 1000000 := by
  intro x hx
  have h1 : x.2 ∈ putR m := by rw [← h]; exact List.mem_map_of_mem hx
  have h2 : ∃ p, x.2 = sealS p := by
    unfold putR at h1
    rcases List.mem_cons.1 h1 with h3 | h3
    · exact ⟨_, h3⟩
    · obtain ⟨i, _, h4⟩ := List.mem_map.1 h3
      exact ⟨_, h4.symm⟩
  obtain ⟨p, hp⟩ := h2
  rw [hp]
  have := sealS_len_le p
  omega
theorem far_no {a b : Nat} (h : (decide (40 < a) || decide (300 < b)) = false) : a ≤ 40 ∧ b ≤ 300 := by
  simp only [Bool.or_eq_false_iff, decide_eq_false_iff_not] at h
  omega
set_option maxHeartbeats 8000000
theorem recordApart_walk (W : World) {m x : Rc} (hm : m.Rd W.cell? ∧ m.name.size ≤ maxLen) (hx : x.Rd W.cell? ∧ x.name.size ≤ maxLen) :
    Calls Try.prog 18 #[.agg m.cells.toArray, .agg x.cells.toArray] W fun e w' => e = .returned (.bool true) ∧ Below W.heap.size W w' := by
  obtain ⟨hm, hz1⟩ := hm
  obtain ⟨hx, hz2⟩ := hx
  have HM0 : Hid (m.Rd (Snap.of W).cell?) := Hid.mk' hm
  have HX0 : Hid (x.Rd (Snap.of W).cell?) := Hid.mk' hx
  have HZ := Hid.mk' hz1
  have HZX := Hid.mk' hz2
  obtain ⟨kind, name, attempt, epoch, mark, size, vs, share⟩ := m
  obtain ⟨kind', name', attempt', epoch', mark', size', vs', share'⟩ := x
  have hs : RdB W.cell? vs share := hm
  have hs' : RdB W.cell? vs' share' := hx
  obtain ⟨as_, cs_, rfl⟩ := hs.form
  obtain ⟨as', cs', rfl⟩ := hs'.form
  clear hs hs' hm hx hz1 hz2
  show Calls _ _ #[.agg #[.int .i64 kind, .string name, .int .i64 attempt, .int .i64 epoch, .int .i64 mark, .int .i64 size, .slice as_ share.length cs_], .agg #[.int .i64 kind', .string name', .int .i64 attempt', .int .i64 epoch', .int .i64 mark', .int .i64 size', .slice as' share'.length cs']] _ _
  obtain ⟨R1, le1, H1, hb1⟩ := (Holds.start W).allocR (.cells #[.int .i64 kind, .string name, .int .i64 attempt, .int .i64 epoch, .int .i64 mark, .int .i64 size, .slice as_ share.length cs_] tRec (0, 0))
  obtain ⟨R2, le2, H2, hb2⟩ := H1.allocR (.cells #[.int .i64 kind', .string name', .int .i64 attempt', .int .i64 epoch', .int .i64 mark', .int .i64 size', .slice as' share'.length cs'] tRec (0, 0))
  replace hb1 := le2.blk _ _ hb1
  have leA := le1.trans le2
  have HM := Hid.mk' (HM0.out.le leA)
  have HX := Hid.mk' (HX0.out.le leA)
  simp only [World.size_alloc] at hb2
  clear H1
  go_enter Try.func18, Try.ntmps18
  go_upto_region 1 with fail
  generalize (World.alloc ..) = w1 at H2 ⊢
  generalize W.heap.size + 1 = g2 at hb2 ⊢
  generalize hg : W.heap.size = g at hb1 ⊢
  obtain ⟨l1, n1, c1⟩ := Holds.frzFacts (H2) hb1
  obtain ⟨l2, n2, c2⟩ := Holds.frzFacts (H2) hb2
  go_wp2_with fail
  refine (recFar_spec (⟨kind, name, attempt, epoch, mark, size, .slice as_ share.length cs_, share⟩ : Rc) H2 HM.out).mono ?_
  rintro e w5 ⟨rfl, H5⟩
  clear H2 l1 n1 c1 l2 n2 c2
  obtain ⟨b, hb⟩ : ∃ b, b = (decide (40 < ((⟨kind, name, attempt, epoch, mark, size, .slice as_ share.length cs_, share⟩ : Rc)).name.size) || decide (300 < ((⟨kind, name, attempt, epoch, mark, size, .slice as_ share.length cs_, share⟩ : Rc)).share.length)) := ⟨_, rfl⟩
  rw [← hb]
  have HB := Hid.mk' hb.symm
  clear hb
  cases b with
  | true =>
    go_wp2_with fail
    refine (alive20 H5 celly_emp).mono ?_
    rintro e w99 ⟨rfl, H99⟩
    go_wp2_with fail
    go_ret
    exact ⟨rfl, hg ▸ H99.toBelow (leA)⟩
  | false =>
  have hf := far_no HB.out
  simp only at hf
  have HSZ : Hid (Rc.Sz (⟨kind, name, attempt, epoch, mark, size, .slice as_ share.length cs_, share⟩ : Rc)) := Hid.mk' ⟨HZ.out, by show share.length ≤ 1000000; omega⟩
  clear HB
  obtain ⟨l2, n2, c2⟩ := Holds.frzFacts (H5) hb2
  go_wp2_with fail
  refine (recFar_spec (⟨kind', name', attempt', epoch', mark', size', .slice as' share'.length cs', share'⟩ : Rc) H5 HX.out).mono ?_
  rintro e w6 ⟨rfl, H6⟩
  clear H5 l2 n2 c2
  obtain ⟨b, hb⟩ : ∃ b, b = (decide (40 < ((⟨kind', name', attempt', epoch', mark', size', .slice as' share'.length cs', share'⟩ : Rc)).name.size) || decide (300 < ((⟨kind', name', attempt', epoch', mark', size', .slice as' share'.length cs', share'⟩ : Rc)).share.length)) := ⟨_, rfl⟩
  rw [← hb]
  have HB := Hid.mk' hb.symm
  clear hb
  cases b with
  | true =>
    go_wp2_with fail
    refine (alive20 H6 celly_emp).mono ?_
    rintro e w99 ⟨rfl, H99⟩
    go_wp2_with fail
    go_ret
    exact ⟨rfl, hg ▸ H99.toBelow (leA)⟩
  | false =>
  have hf' := far_no HB.out
  simp only at hf'
  have HSX : Hid (Rc.Sz (⟨kind', name', attempt', epoch', mark', size', .slice as' share'.length cs', share'⟩ : Rc)) := Hid.mk' ⟨HZX.out, by show share'.length ≤ 1000000; omega⟩
  clear HB hf hf'
  obtain ⟨l1, n1, c1⟩ := Holds.frzFacts (H6) hb1
  go_wp2_with fail
  refine (rrecRight_spec (⟨kind, name, attempt, epoch, mark, size, .slice as_ share.length cs_, share⟩ : Rc) H6 HM.out HSZ.out).mono ?_
  rintro e w7 ⟨rfl, H7⟩
  clear H6 l1 n1 c1
  cases hok : rcOk (⟨kind, name, attempt, epoch, mark, size, .slice as_ share.length cs_, share⟩ : Rc) with
  | false =>
    go_wp2_with fail
    refine (alive20 H7 celly_emp).mono ?_
    rintro e w99 ⟨rfl, H99⟩
    go_wp2_with fail
    go_ret
    exact ⟨rfl, hg ▸ H99.toBelow (leA)⟩
  | true =>
  have HOK := Hid.mk' hok
  clear hok
  obtain ⟨l2, n2, c2⟩ := Holds.frzFacts (H7) hb2
  go_wp2_with fail
  refine (rrecRight_spec (⟨kind', name', attempt', epoch', mark', size', .slice as' share'.length cs', share'⟩ : Rc) H7 HX.out HSX.out).mono ?_
  rintro e w8 ⟨rfl, H8⟩
  clear H7 l2 n2 c2
  cases hok : rcOk (⟨kind', name', attempt', epoch', mark', size', .slice as' share'.length cs', share'⟩ : Rc) with
  | false =>
    go_wp2_with fail
    refine (alive20 H8 celly_emp).mono ?_
    rintro e w99 ⟨rfl, H99⟩
    go_wp2_with fail
    go_ret
    exact ⟨rfl, hg ▸ H99.toBelow (leA)⟩
  | true =>
  have HOX := Hid.mk' hok
  clear hok
  go_wp2_with fail
  refine (new_crc H8).mono ?_
  rintro e w9 ⟨p, rfl, H9⟩
  obtain ⟨R3, le3, H10, hT⟩ := H9.freezeBlk
  replace hb1 := le3.blk _ _ hb1
  replace hb2 := le3.blk _ _ hb2
  replace leA := leA.trans le3
  replace HM := Hid.mk' (HM.out.le le3)
  replace HX := Hid.mk' (HX.out.le le3)
  clear H8 H9 le1 le2 le3
  obtain ⟨l1, n1, c1⟩ := Holds.frzFacts (H10) hb1
  go_wp2_with fail
  refine (recPut_ok (⟨kind, name, attempt, epoch, mark, size, .slice as_ share.length cs_, share⟩ : Rc) H10 celly_emp hT HM.out HSZ.out HOK.out).mono ?_
  rintro e w11 ⟨o, q, rfl, hq, H11⟩
  obtain ⟨R4, le4, H12, hr⟩ := freezeBB H11
  have HQ := Hid.mk' hq
  replace hb1 := le4.blk _ _ hb1
  replace hb2 := le4.blk _ _ hb2
  replace hT := le4.blk _ _ hT
  replace leA := leA.trans le4
  replace HM := Hid.mk' (HM.out.le le4)
  replace HX := Hid.mk' (HX.out.le le4)
  obtain ⟨aa, ca, rfl⟩ := hr.form
  have HA := Hid.mk' hr
  clear H10 l1 n1 c1 H11 hr le4 hq
  obtain ⟨l2, n2, c2⟩ := Holds.frzFacts (H12) hb2
  go_wp2_with fail
  refine (recPut_ok (⟨kind', name', attempt', epoch', mark', size', .slice as' share'.length cs', share'⟩ : Rc) H12 celly_emp hT HX.out HSX.out HOX.out).mono ?_
  rintro e w13 ⟨o, q2, rfl, hq2, H13⟩
  obtain ⟨R5, le5, H14, hr⟩ := freezeBB H13
  have HQ2 := Hid.mk' hq2
  replace HA := Hid.mk' (HA.out.le le5)
  replace hb1 := le5.blk _ _ hb1
  replace hb2 := le5.blk _ _ hb2
  replace leA := leA.trans le5
  replace HM := Hid.mk' (HM.out.le le5)
  replace HX := Hid.mk' (HX.out.le le5)
  obtain ⟨ab, cb, rfl⟩ := hr.form
  have HBB := Hid.mk' hr
  clear H12 l2 n2 c2 H13 hr le5 hT hq2
  obtain ⟨y, hy⟩ : ∃ y, y = rcSame (⟨kind, name, attempt, epoch, mark, size, .slice as_ share.length cs_, share⟩ : Rc) (⟨kind', name', attempt', epoch', mark', size', .slice as' share'.length cs', share'⟩ : Rc) := ⟨_, rfl⟩
  have HE : Hid (decide (q.map Prod.snd = q2.map Prod.snd) = y) := Hid.mk' (by
    have h1 : q.map Prod.snd = putR (⟨kind, name, attempt, epoch, mark, size, .slice as_ share.length cs_, share⟩ : Rc) := HQ.out
    have h2 : q2.map Prod.snd = putR (⟨kind', name', attempt', epoch', mark', size', .slice as' share'.length cs', share'⟩ : Rc) := HQ2.out
    rw [h1, h2, putR_apart HOK.out HOX.out, hy])
  have HY := Hid.mk' hy
  clear hy
  obtain ⟨l1, n1, c1⟩ := Holds.frzFacts (H14) hb1
  obtain ⟨l2, n2, c2⟩ := Holds.frzFacts (H14) hb2
  go_upto_region 6 with fail
  cases y
  all_goals
    go_region_held3 (fun w' => (∀ o, w'.cell? ⟨g, o, none⟩ = #[.int .i64 kind, .string name, .int .i64 attempt, .int .i64 epoch, .int .i64 mark, .int .i64 size, .slice as_ share.length cs_][o]?) ∧ (∀ o, w'.cell? ⟨g2, o, none⟩ = #[.int .i64 kind', .string name', .int .i64 attempt', .int .i64 epoch', .int .i64 mark', .int .i64 size', .slice as' share'.length cs'][o]?)) (first | (exact And.intro (H23.frz hb1) (H23.frz hb2)) | (exact And.intro (H22.frz hb1) (H22.frz hb2)) | (exact And.intro (H21.frz hb1) (H21.frz hb2)) | ((repeat' (first | assumption | (with_reducible refine And.intro ?_ ?_) | (with_reducible refine keep_drew ?_) | (with_reducible refine keep_drewN ?_) | (with_reducible refine keep_alloc ?_ (by first | assumption | (simp only [World.size_alloc, World.size_drew, World.size_setCell]; omega))) | (with_reducible refine keep_set ?_ (by first | assumption | omega)))))) (first | (go_at_call 67; refine (same04_spec H14.drew HA.out HBB.out (putR_lens HQ.out) (putR_lens HQ2.out)).mono ?_; rintro e w21 ⟨rfl, H21⟩; rw [HE.out]) | (go_at_call 73; refine (alive20 H22 celly_emp).mono ?_; rintro e w23 ⟨rfl, H23⟩) | (go_at_call 80; refine (rrecSame_spec (⟨kind, name, attempt, epoch, mark, size, .slice as_ share.length cs_, share⟩ : Rc) (⟨kind', name', attempt', epoch', mark', size', .slice as' share'.length cs', share'⟩ : Rc) H21 HM.out HSZ.out HX.out HSX.out).mono ?_; rintro e w22 ⟨rfl, H22⟩; rw [← HY.out]))
    go_wp2_with fail
    go_ret
    exact ⟨rfl, hg ▸ H23.toBelow leA⟩
end Sh
