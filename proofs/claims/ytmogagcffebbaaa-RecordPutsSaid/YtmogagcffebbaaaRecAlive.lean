/- Records' laws: the document's example. -/
import Derived.Test.YtmogagcffebbaaaRecLaw
set_option linter.unusedVariables false
set_option linter.unusedSimpArgs false
namespace Sh
open Go Go.RowKit Go.Proofs
attribute [local go_sem ↓] Go.wp_at_zero Go.wp_at_succ
set_option maxHeartbeats 1000000
set_option maxRecDepth 100000

theorem some_ok : rcOk (someR 49) = true := by decide
theorem putR_some {M : Rc} (h : M.con = (someR 49).con) : (putR M).length = 3 := by rw [putR_con h, putR_len]; decide
set_option maxHeartbeats 8000000
theorem alive20 {w : World} {R : Snap} {L : Asrt} (H : Holds w R L) (hcy : L.celly) : Calls Try.prog 73 #[] w fun e w' => e = .returned (.bool true) ∧ Holds w' R L := by
  go_enter Try.func73, Try.ntmps73
  go_wp2_with fail
  refine (new_crc H).mono ?_
  rintro e w1 ⟨p, rfl, H1⟩
  obtain ⟨R1, le1, H2, hT⟩ := H1.freezeBlk
  clear H1 H
  go_wp2_with fail
  refine (some_spec 49 (by decide) H2).mono ?_
  rintro e w2 ⟨R2, le2, M1, rfl, hc1, hr1, hz1, H3⟩
  have hT2 := le2.blk _ _ hT
  have hok1 : rcOk M1 = true := (rcOk_con hc1).trans some_ok
  have HC1 := Hid.mk' hc1
  have HOK1 := Hid.mk' hok1
  have leA := le1.trans le2
  clear H2 hT hc1 hok1 le1 le2
  go_wp2_with fail
  refine (recPut_ok M1 H3 hcy hT2 hr1 hz1 HOK1.out).mono ?_
  rintro e w3 ⟨o, q, rfl, hq, H4⟩
  obtain ⟨R4, le4, H5, hqq⟩ := freezeBB H4
  have hql : q.length = 3 := by
    have := congrArg List.length hq
    rw [List.length_map, putR_some HC1.out] at this
    exact this
  obtain ⟨ao, co, rfl⟩ := hqq.form
  have hT4 := le4.blk _ _ hT2
  have HQ := Hid.mk' hq
  have HQL := Hid.mk' hql
  have HQQ := Hid.mk' hqq
  simp only [hql]
  replace leA := leA.trans le4
  clear H3 H4 hT2 hq hr1 hz1 le4
  go_wp2_with fail
  have hqv : RdBB R4.cell? (.slice ao 3 co) q := by rw [← HQL.out]; exact HQQ.out
  clear hql hqq
  refine recGet_spec H5 hcy hT4 hqv (by rw [HQL.out]; decide) ?_
  intro R6 M n ok w6 le6 hG hMR hMZ H6
  have hpre : putR M1 <+: q.map Prod.snd := by rw [HQ.out]; exact List.prefix_refl _
  have hG' : ok = true ∧ rcOk M = true ∧ putR M <+: q.map Prod.snd ∧ n = (putR M).length := by
    rcases hG with h | ⟨_, _, _, h4⟩
    · exact h
    · exact absurd hpre (h4 M1 HOK1.out)
  obtain ⟨rfl, h1, h2, h3⟩ := hG'
  have hcM : M.con = (someR 49).con := (put_one h1 HOK1.out h2 hpre).trans HC1.out
  rw [putR_some hcM] at h3
  subst h3
  have HRR := Hid.mk' hMR
  have HZZ := Hid.mk' hMZ
  have HS1 : Hid (∀ x : Rc, x.con = (someR 49).con → rcSame M x = true) := Hid.mk' (fun x hx => rcSame_yes (hcM.trans hx.symm))
  have HS2 : Hid (∀ x : Rc, x.con = (someR 48).con → rcSame M x = false) := Hid.mk' (fun x hx => decide_eq_false (by
    rw [hcM, hx]
    intro h
    have := congrArg (fun x => x.2.2.length) h
    simp [Rc.con, someR] at this))
  have HCN : Hid ((if rcOk M = true then (putR M).length else 0) = 3) := Hid.mk' (by rw [if_pos h1, putR_some hcM])
  clear h1 h2 hcM hpre hqv H5 hG
  replace leA := leA.trans le6
  obtain ⟨kind, name, attempt, epoch, mark, size, vs, share⟩ := M
  obtain ⟨z1, z2⟩ := hMZ
  have hs := hMR
  simp only [Rc.Rd] at z1 z2 hs
  obtain ⟨as_, cs_, rfl⟩ := hs.form
  have hcl : ((⟨kind, name, attempt, epoch, mark, size, .slice as_ share.length cs_, share⟩ : Rc)).cells = [.int .i64 kind, .string name, .int .i64 attempt, .int .i64 epoch, .int .i64 mark, .int .i64 size, .slice as_ share.length cs_] := rfl
  simp only [hcl]
  obtain ⟨R7, le7, H7, hb7⟩ := H6.allocR (.cells #[.int .i64 kind, .string name, .int .i64 attempt, .int .i64 epoch, .int .i64 mark, .int .i64 size, .slice as_ share.length cs_] tRec (0, 0))
  clear hs hMR z1 z2 hcl
  go_upto_region 4 with fail
  generalize (World.alloc ..) = w7 at H7 ⊢
  generalize w6.heap.size = g7 at hb7 ⊢
  obtain ⟨l7, n7, c7⟩ := Holds.frzFacts (H7) hb7
  go_region_held3 (fun w' => (∀ o, w'.cell? ⟨g7, o, none⟩ = #[.int .i64 kind, .string name, .int .i64 attempt, .int .i64 epoch, .int .i64 mark, .int .i64 size, .slice as_ share.length cs_][o]?)) (first | (exact H25.frz (le23.blk _ _ (le21.blk _ _ hb7))) | (exact H24.frz (le23.blk _ _ (le21.blk _ _ hb7))) | (exact H23.frz (le23.blk _ _ (le21.blk _ _ hb7))) | (exact H22.frz (le21.blk _ _ hb7)) | (exact H21.frz (le21.blk _ _ hb7)) | ((repeat' (first | assumption | (with_reducible refine And.intro ?_ ?_) | (with_reducible refine keep_drew ?_) | (with_reducible refine keep_drewN ?_) | (with_reducible refine keep_alloc ?_ (by first | assumption | (simp only [World.size_alloc, World.size_drew, World.size_setCell]; omega))) | (with_reducible refine keep_set ?_ (by first | assumption | omega)))))) (first | (go_at_call 153; first | (refine (some_spec 48 (by decide) H22).mono ?_; rintro e w23 ⟨R23, le23, M23, rfl, hc23, hr23, hz23, H23⟩) | (refine (some_spec 49 (by decide) H7.drew).mono ?_; rintro e w21 ⟨R21, le21, M21, rfl, hc21, hr21, hz21, H21⟩)) | (go_at_call 79; first | (refine (recSame_spec (⟨kind, name, attempt, epoch, mark, size, .slice as_ share.length cs_, share⟩ : Rc) M23 H23 (((HRR.out.le le7).le le21).le le23) HZZ.out hr23 hz23).mono ?_; rintro e w24 ⟨rfl, H24⟩; rw [HS2.out _ hc23]) | (refine (recSame_spec (⟨kind, name, attempt, epoch, mark, size, .slice as_ share.length cs_, share⟩ : Rc) M21 H21 ((HRR.out.le le7).le le21) HZZ.out hr21 hz21).mono ?_; rintro e w22 ⟨rfl, H22⟩; rw [HS1.out _ hc21])) | (go_at_call 81; refine (recCount_spec (⟨kind, name, attempt, epoch, mark, size, .slice as_ share.length cs_, share⟩ : Rc) H24 (((HRR.out.le le7).le le21).le le23) HZZ.out).mono ?_; rintro e w25 ⟨rfl, H25⟩; rw [HCN.out]) | (go_at_call 77; refine (role_spec 5 _).mono ?_; rintro e w26 ⟨rfl, rfl⟩; rw [show roleI 5 = 2 from rfl]))
  all_goals
    go_wp2_with fail
    go_ret
    exact ⟨rfl, H25.weaken (leA.trans (le7.trans (le21.trans le23)))⟩
end Sh
