/- disk.New. -/
import Derived.Test.YtmogagcffebbaaaDisk
set_option linter.unusedVariables false
set_option linter.unusedSimpArgs false
namespace Sh
open Go Go.RowKit Go.Proofs
attribute [local go_sem ↓] Go.wp_at_zero Go.wp_at_succ
set_option maxHeartbeats 1000000
set_option maxRecDepth 100000

abbrev tSecs : TypeId := 88
theorem undSecs : Try.prog.underlying tSecs = some (.slice tBytes) := Try.underlying88
theorem infoBytes : (Try.prog.info? tBytes).map (fun i => (i.zero, i.size, i.bytes)) = some (some (.slice none 0 0), 1, 24) := by kernel_rfl
def secN (n : Int) : Nat := (min (max n 1) 512).toNat
abbrev zeros (n : Nat) : List (List UInt8) := List.replicate n (List.replicate 64 0)
theorem disknew_spec {w : World} {R : Snap} {L : Asrt} {n : Int} (H : Holds w R L) :
    Calls Try.prog 162 #[.int .i64 n] w fun e w' => ∃ p, e = .returned (.pointer (some ⟨p, 0, none⟩)) ∧ Holds w' R (star (diskS p (zeros (secN n)) (-1) false) L) := by
  obtain ⟨m, hm⟩ : ∃ m, m = secN n := ⟨_, rfl⟩
  have e1 : min (max n 1) 512 = (m : Int) := by rw [hm, secN]; omega
  have hm5 : m ≤ 512 := by omega
  rw [← hm]
  have HM := Hid.mk' hm
  clear hm
  go_enter Try.func162, Try.ntmps162
  go_wp2_with fail
  have H1 : Holds _ R (star (diskS w.heap.size [] (-1) false) L) := disk_shut (q := []) rfl (by
    show Holds _ R (star _ (star _ (star emp L)))
    rw [emp_star]
    exact ((H.alloc #[.slice none 0 0, .int .i64 (-1), .bool false] 195).nilRow tBytes 1).swap)
  generalize (World.alloc ..) = w1 at H1 ⊢
  generalize w.heap.size = p at H1 ⊢
  go_loopw [9] (fun i wx => ∃ j : Nat, i = .int .i64 j ∧ j ≤ m ∧ Holds wx R (star (diskS p (zeros j) (-1) false) L)) (fun i _ => m - (intOf i).toNat)
  case atStart => exact ⟨0, rfl, Nat.zero_le _, H1⟩
  case round =>
    clear H H1
    obtain ⟨j, rfl, hj, H2⟩ := hrel
    by_cases hlt : j < m
    · go_upto_region 4 with fail
      obtain ⟨q, a, c, hq, H3⟩ := disk_open H2
      clear H2
      have hql : q.length = j := by have := congrArg List.length hq; simpa using this
      have HQ := Hid.mk' hq
      have HQL := Hid.mk' hql
      have hq9 : q.length ≤ 512 := by omega
      clear hq hql
      obtain ⟨l3, n3, c3, z3⟩ := Holds.facts (H3)
      go_region_law ((first | (go_simp; go_at_call 176; refine (zero_spec H3.drew).mono ?_; rintro e w5 ⟨v5, rfl, H5⟩; obtain ⟨a5, c5, rfl⟩ := H5.rowRd.form; rw [List.length_replicate] at H5 ⊢; obtain ⟨l5, n5, cp5, fp5⟩ := H5.swap.facts; have H6 := H5.pick3.alloc #[.slice a5 64 c5] tBytes; have hr6 := (H6.toRow 1 1 1 (Nat.le_refl _) (by simp [maxLen]) rfl).rowRd) | (refine step_append rfl _ _ (by rfl) undSecs infoBytes rfl (by decide) (by rfl) (by rfl) H6.drop hr6 (by simp [Value.oneCell']) (by simp [maxLen]; omega) (by omega) ?_; intro v6 w6 H7; obtain ⟨a6, c6, rfl⟩ := H7.rowRd.form; have cp6 := H7.pick3.blkCell; have fp6 := H7.pick3.blkFrozen)))
      all_goals
        go_wp2_with fail
        go_roundw
        case rel =>
          refine ⟨j + 1, by go_num, hlt, ?_⟩
          have H8 := H7.pick3.set 0 (.slice a6 (q.length + 1) c6)
          refine disk_shut (v := .slice a6 (q.length + 1) c6) (q := q ++ [(.slice a5 64 c5, List.replicate 64 0)]) (by rw [List.map_append, HQ.out]; simp [zeros, List.replicate_succ']) ?_
          rw [bytesAll_append, bytesAll_one, List.length_append, List.length_singleton, List.map_append]
          exact H8.ac (by ac_rfl)
        case measure => simp [intOf]; omega
    · go_wp2_with fail
      go_ret
      rw [show j = m by omega] at H2
      exact ⟨_, rfl, H2⟩
end Sh
