/- sherdref15's contracts: Seal, Open, Clear. -/
import Derived.Test.YtmogagcffebbaaaSector
import Derived.Test.YtmogagcffebbaaaCrcRef
set_option linter.unusedVariables false
set_option linter.unusedSimpArgs false
namespace Sh
open Go Go.RowKit Go.Proofs
attribute [local go_sem ↓] Go.wp_at_zero Go.wp_at_succ
set_option maxHeartbeats 1000000
set_option maxRecDepth 100000

theorem rsseal_spec {w : World} {R : Snap} {L : Asrt} {v : Value} {p : List UInt8} (H : Holds w R L) (hr : RdB R.cell? v p) (h60 : p.length ≤ 60) :
    Calls Try.prog 150 #[v] w fun e w' => ∃ o, e = .returned o ∧ Holds w' R (star (rowB o (sealS p)) L) := by
  have hr0 := hr
  obtain ⟨a, c, rfl⟩ := hr.form
  have e1 : sealS p = sealB (p ++ List.replicate (60 - p.length) 0) := by rw [sealS, if_pos h60, padTo60, List.take_of_length_le h60, List.drop_replicate]
  rw [e1]
  clear e1
  go_enter Try.func150, Try.ntmps150
  go_wp2_with (with_reducible refine stop_append ?_)
  refine Hold.go (wpList_appendB rfl _ _ rfl rfl rfl (freshB H) (hr0.world (H.garbage _)) (by simp only [List.length_nil]; omega) ?_)
  intro v1 w1 H1
  rw [List.nil_append] at H1
  go_wp2_with fail
  go_loopw [3] (fun o wx => ∃ j : Nat, j ≤ 60 - p.length ∧ o = .slice (match o with | .slice a _ _ => a | _ => none) (p.length + j) (match o with | .slice _ _ c => c | _ => 0) ∧ Holds wx R (star (rowB o (p ++ List.replicate j 0)) L)) (fun o _ => 60 - (match o with | .slice _ n _ => n | _ => 0))
  case atStart =>
    obtain ⟨a1, c1, rfl⟩ := H1.rowRd.form
    exact ⟨0, Nat.zero_le _, rfl, by simpa using H1⟩
  case round =>
    clear H1
    obtain ⟨j, hj, hu, H2⟩ := hrel
    obtain ⟨a2, c2, rfl⟩ := H2.rowRd.form
    clear hu
    have hpl : (p ++ List.replicate j 0).length = p.length + j := by simp
    rw [hpl] at H2 ⊢
    have HP := Hid.mk' hpl
    clear hpl
    by_cases hlt : p.length + j < 60
    · go_wp2_with (with_reducible refine stop_append ?_)
      refine Hold.go (wpList_appendB rfl _ _ rfl rfl rfl (H2.garbage _) (blkRdB (H2.alloc _ _) [0] rfl rfl (Nat.le_of_ble_eq_true rfl)) (by rw [HP.out, List.length_singleton]; omega) ?_)
      intro v3 w3 H3
      rw [List.append_assoc, ← List.replicate_succ'] at H3
      obtain ⟨a3, c3, rfl⟩ := H3.rowRd.form
      rw [show (p ++ List.replicate (j + 1) (0 : UInt8)).length = p.length + (j + 1) by simp] at H3 ⊢
      go_wp2_with fail
      go_roundw
      case rel => exact ⟨j + 1, by omega, rfl, H3⟩
      case measure => simp; omega
    · have e2 : j = 60 - p.length := by omega
      subst e2
      obtain ⟨R3, le3, H3, hr3⟩ := H2.freezeRow
      clear H2
      have hr4 : RdB R3.cell? (.slice a2 60 c2) (p ++ List.replicate (60 - p.length) 0) := by
        have h := hr3
        rw [show (Value.slice a2 (p.length + (60 - p.length)) c2) = .slice a2 60 c2 from by rw [show p.length + (60 - p.length) = 60 by omega]] at h
        exact h
      go_wp2_with fail
      refine (cseal_ref H3 hr4 (by rw [HP.out]; omega)).mono ?_
      rintro e w4 ⟨o4, rfl, H4⟩
      go_wp2_with fail
      go_ret
      exact ⟨_, rfl, H4.weaken le3⟩
theorem rsopen_spec {w : World} {R : Snap} {L : Asrt} {v : Value} {b : List UInt8} (H : Holds w R L) (hr : RdB R.cell? v b) :
    Calls Try.prog 151 #[v] w fun e w' => ∃ o, e = .returned (.tuple #[o, .bool (openOk b)]) ∧ Holds w' R (star (rowB o (openP b)) L) := by
  have hr0 := hr
  obtain ⟨a, c, rfl⟩ := hr.form
  by_cases h64 : b.length = 64
  · have t1 : ((b.length : Int) != 64) = false := by simp [h64]
    have e0 : openOk b = goodB b := by simp [openOk, h64]
    have e1 : openP b = if goodB b = true then b.take 60 else [] := by rw [openP, e0]
    rw [e0, e1]
    have hb : b.length ≤ 1000000 := by omega
    have hB := hr0.bounds
    have i1 : (60 : Int) ≤ c := by omega
    have hpre := RdB.pre hr0 60 (by omega)
    have hp6 : (b.take 60).length ≤ 60 := by simp; omega
    clear e0 e1 h64 hB
    have hgood := cgood_ref H hr0 hb
    cases hg : goodB b with
    | true =>
      rw [hg] at hgood
      rw [if_pos rfl]
      clear hg
      go_enter Try.func151, Try.ntmps151
      go_wp2_with (with_reducible refine stop_append ?_)
      refine hgood.mono ?_
      rintro e w1 ⟨rfl, H1⟩
      go_wp2_with (with_reducible refine stop_append ?_)
      refine Hold.go (wpList_appendB rfl _ _ rfl rfl rfl (freshB H1) (hpre.world (H1.garbage _)) (by simp only [List.length_nil]; omega) ?_)
      intro v2 w2 H2
      go_wp2_with fail
      go_ret2
      exact ⟨_, rfl, H2⟩
    | false =>
      rw [hg] at hgood
      rw [if_neg (by decide)]
      clear hg
      go_enter Try.func151, Try.ntmps151
      go_wp2_with fail
      refine hgood.mono ?_
      rintro e w1 ⟨rfl, H1⟩
      go_wp2_with fail
      go_ret2
      exact ⟨_, rfl, H1.nilRow _ 1⟩
  · have t1 : ((b.length : Int) != 64) = true := by rw [bne_iff_ne]; omega
    have e0 : openOk b = false := by simp [openOk, h64]
    have e1 : openP b = [] := by simp [openP, e0]
    rw [e0, e1]
    clear e0 e1
    go_enter Try.func151, Try.ntmps151
    go_wp2_with fail
    go_ret2
    exact ⟨_, rfl, H.nilRow _ 1⟩
theorem rsclear_spec {w : World} {v : Value} {b : List UInt8} (hr : RdB w.cell? v b) :
    Calls Try.prog 173 #[v] w fun e w' => e = .returned (.bool (clearB b)) ∧ w = w' := by
  have hr0 := hr
  obtain ⟨a, c, rfl⟩ := hr.form
  have hm := hr0.max
  unfold maxLen at hm
  go_enter Try.func173, Try.ntmps173
  go_wp2_with fail
  go_loop [3] (fun i => ∃ j : Nat, i = .int .i64 j ∧ j ≤ b.length ∧ Hid (b.take j = List.replicate j 0)) (fun i => b.length - (intOf i).toNat)
  case atStart => exact ⟨0, rfl, Nat.zero_le _, rfl⟩
  case round =>
    obtain ⟨j, rfl, hj, hz⟩ := hrel
    by_cases hlt : j < b.length
    · obtain ⟨b1, o1, rfl, hc⟩ := RdB.open hr0 (by omega)
      have cj := hc j hlt
      have hs : Hid (b.take (j + 1) = b.take j ++ [b[j]]) := Hid.mk' (List.take_succ_eq_append_getElem hlt)
      have hne : Hid (b[j] ≠ 0 → clearB b = false) := Hid.mk' (fun h => by
        rw [clearB, decide_eq_false_iff_not]
        intro h2; exact h (List.eq_of_mem_replicate (by rw [← h2]; exact List.getElem_mem hlt)))
      generalize b[j] = x at cj hs hne
      clear hc
      by_cases hx : x = 0
      · subst hx
        have cj0 : w.cell? ⟨b1, o1 + j, none⟩ = some (.int .u8 0) := cj
        clear cj
        go_wp2_with fail
        go_round
        case rel => exact ⟨j + 1, by go_num, hlt, Hid.mk' (by rw [hs.out, hz.out, ← List.replicate_succ'])⟩
        case measure => simp [intOf]; omega
      · have t1 : ((x.toNat : Int) != 0) = true := by rw [bne_iff_ne]; intro h; exact hx (UInt8.toNat_inj.1 (by simpa using h))
        go_wp2_with fail
        go_ret
        exact ⟨ret_bool (hne.out hx).symm, rfl⟩
    · go_wp2_with fail
      go_ret
      refine ⟨ret_bool ?_, rfl⟩
      have h1 := hz.out
      rw [show j = b.length by omega, List.take_length] at h1
      rw [clearB, Bool.eq_iff_iff, decide_eq_true_eq, beq_iff_eq]
      constructor
      · intro h2; rw [h1, show b.length = 64 by omega]
      · intro h2; have := congrArg List.length h2; simp at this; omega
end Sh
