/- (*disk.Disk).Wipe. -/
import Derived.Test.YtdkkadpcgemefaaDiskNew
set_option linter.unusedVariables false
set_option linter.unusedSimpArgs false
namespace Sh
open Go Go.RowKit Go.Proofs
attribute [local go_sem ↓] Go.wp_at_zero Go.wp_at_succ
set_option maxHeartbeats 1000000
set_option maxRecDepth 100000

theorem dwipe_spec {w : World} {R : Snap} {L : Asrt} {p : Nat} {S : List (List UInt8)} {left : Int} {dead : Bool} (H : Holds w R (star (diskS p S left dead) L)) (hl : S.length ≤ 1000) :
    Calls Try.prog 94 #[.pointer (some ⟨p, 0, none⟩)] w fun e w' => e = .returned (.tuple #[]) ∧ Holds w' R (star (diskS p (zeros S.length) left dead) L) := by
  go_enter Try.func94, Try.ntmps94
  go_wp2_with fail
  refine (size_spec H).mono ?_
  rintro e w1 ⟨rfl, rfl⟩
  go_wp2_with fail
  go_loopw [5] (fun i wx => ∃ (j : Nat) (S2 : List (List UInt8)), i = .int .i64 j ∧ j ≤ S.length ∧ S2.length = S.length ∧ S2.take j = zeros j ∧ Holds wx R (star (diskS p S2 left dead) L)) (fun i _ => S.length - (intOf i).toNat)
  case atStart => exact ⟨0, S, rfl, Nat.zero_le _, rfl, rfl, H⟩
  case round =>
    clear H
    obtain ⟨j, S2, rfl, hj, hl2, hz, H2⟩ := hrel
    have HL2 := Hid.mk' hl2
    have HZ := Hid.mk' hz
    by_cases hlt : j < S.length
    · have hlt2 : j < S2.length := by omega
      clear hl2 hz
      go_upto_region 3 with fail
      obtain ⟨q, a, c, hq, H3⟩ := disk_open H2
      clear H2
      have hkq : j < q.length := by rw [← hq] at hlt2; simpa using hlt2
      have HQ := Hid.mk' hq
      clear hq
      obtain ⟨g, cg, ha, hcg, hg, hcell, hfro⟩ := H3.swap.rowAt (by omega)
      simp only [Value.slice.injEq, true_and] at ha
      obtain ⟨rfl, rfl⟩ := ha
      obtain ⟨l3, n3, c3, z3⟩ := Holds.facts (H3)
      have i1 : (j : Int) < q.length := by omega
      have i0 : (0 : Int) ≤ j := by omega
      clear hcell hfro hlt2
      go_region_law ((first | (go_simp; go_at_call 180; refine (zero_spec H3.drew).mono ?_; rintro e w5 ⟨v5, rfl, H5⟩; obtain ⟨a5, c5, rfl⟩ := H5.rowRd.form; rw [List.length_replicate] at H5 ⊢; obtain ⟨l5, n5, cp5, fp5⟩ := H5.swap.facts; obtain ⟨g5, cg5, ha5, hcg5, hg5, hcell5, hfro5⟩ := H5.pick3.rowAt (by omega); simp only [Value.slice.injEq, true_and, Option.some.injEq, Addr.mk.injEq] at ha5; obtain ⟨⟨rfl, _⟩, rfl⟩ := ha5; have ck5 := hcell5 j q[j].1 (by simp [hkq]); have fk5 := hfro5 j; clear hcell5 hfro5)))
      all_goals
        go_wp2_with fail
        go_roundw
        case rel =>
          refine ⟨j + 1, S2.set j (List.replicate 64 0), by go_num, hlt, by rw [List.length_set, HL2.out], ?_, ?_⟩
          · rw [List.take_succ_eq_append_getElem (by rw [List.length_set, HL2.out]; exact hlt), List.take_set, List.set_eq_of_length_le (by simp; omega), HZ.out, List.getElem_set_self]
            simp [zeros, List.replicate_succ']
          · refine disk_shut (v := .slice (some ⟨g, 0, none⟩) q.length c) (q := q.set j (.slice a5 64 c5, List.replicate 64 0)) (by rw [List.map_set, HQ.out]) ?_
            have H6 := H5.pick3.rowSet j (.slice a5 64 c5) (by omega)
            rw [bytesAll_at hkq] at H6
            rw [bytesAll_set hkq, List.length_set, List.map_set]
            exact (H6.ac (B := star (rowB q[j].1 q[j].2) (star (blk p _ _) (star (row tBytes 1 _ q.length _) (star (star (rowB _ (List.replicate 64 0)) (star (bytesAll (q.take j)) (bytesAll (q.drop (j + 1))))) L)))) (by ac_rfl)).drop
        case measure => simp [intOf]; omega
    · have e1 : j = S.length := by omega
      have e2 : S2 = zeros S.length := by
        rw [← hz.symm.trans (List.take_of_length_le (by omega)), e1]
      clear hz hl2
      go_wp2_with fail
      go_end0
      rw [e2] at H2
      exact ⟨rfl, H2⟩
end Sh
