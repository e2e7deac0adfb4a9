/- (*disk.Disk).Copy. -/
import Derived.Test.YtdkkadpcgemefaaDiskNew
set_option linter.unusedVariables false
set_option linter.unusedSimpArgs false
namespace Sh
open Go Go.RowKit Go.Proofs
attribute [local go_sem ↓] Go.wp_at_zero Go.wp_at_succ
set_option maxHeartbeats 1000000
set_option maxRecDepth 100000

theorem dcopy_spec {w : World} {R : Snap} {L : Asrt} {p : Nat} {S : List (List UInt8)} {left : Int} {dead : Bool} (H : Holds w R (star (diskS p S left dead) L)) (hS : ∀ s ∈ S, s.length ≤ 1000000) (hl : S.length ≤ 1000) :
    Calls Try.prog 107 #[.pointer (some ⟨p, 0, none⟩)] w fun e w' => ∃ px, e = .returned (.pointer (some ⟨px, 0, none⟩)) ∧ Holds w' R (star (diskS px S left dead) (star (diskS p S left dead) L)) := by
  obtain ⟨q, a, c, hq, H1⟩ := disk_open H
  clear H
  have hql : q.length = S.length := by rw [← hq]; simp
  have hqS : ∀ k (h : k < q.length), q[k].2.length ≤ 1000000 := fun k h => hS _ (by rw [← hq]; exact List.mem_map.2 ⟨_, List.getElem_mem h, rfl⟩)
  have HQ := Hid.mk' hq
  have HQL := Hid.mk' hql
  have HQS := Hid.mk' hqS
  have hq9 : q.length ≤ 1000 := by omega
  clear hS hq hql hqS
  obtain ⟨l1, n1, c1, z1⟩ := Holds.facts (H1)
  go_enter Try.func107, Try.ntmps107
  go_wp2_with fail
  go_region_held3 (fun w' => (∀ o, w'.cell? ⟨p, o, none⟩ = #[.slice a q.length c, .int .i64 left, .bool dead][o]?)) ((repeat' (first | assumption | (with_reducible refine And.intro ?_ ?_) | (with_reducible refine keep_drew ?_) | (with_reducible refine keep_drewN ?_) | (with_reducible refine keep_alloc ?_ (by first | assumption | (simp only [World.size_alloc, World.size_drew, World.size_setCell]; omega))) | (with_reducible refine keep_set ?_ (by first | assumption | omega))))) (fail)
  have H2 : Holds (w.alloc (.cells #[.slice none 0 0, .int .i64 left, .bool dead] 216)).drew R (star (diskS w.heap.size [] left dead) (star (blk p #[.slice a q.length c, .int .i64 left, .bool dead] 216) (star (row tBytes 1 (.slice a q.length c) q.length (q.map (·.1))) (star (bytesAll q) L)))) := disk_shut (q := []) rfl (by
    show Holds _ R (star _ (star _ (star emp _)))
    rw [emp_star]
    exact (((H1.alloc #[.slice none 0 0, .int .i64 left, .bool dead] 216).drew).nilRow tBytes 1).swap)
  rename_i hHeld
  clear hHeld l1 n1 c1 z1 H1
  generalize (World.drew (World.alloc _ _)) = w2 at H2 ⊢
  generalize w.heap.size = px at H2 ⊢
  have H3 := H2.swap
  obtain ⟨l3, n3, c3, z3⟩ := Holds.facts (H3)
  go_wp2_with fail
  clear H3 l3 n3 c3 z3
  go_loopw [23] (fun i wx => ∃ j : Nat, i = .int .i64 j ∧ j ≤ q.length ∧ Holds wx R (star (diskS px (S.take j) left dead) (star (blk p #[.slice a q.length c, .int .i64 left, .bool dead] 216) (star (row tBytes 1 (.slice a q.length c) q.length (q.map (·.1))) (star (bytesAll q) L))))) (fun i _ => q.length - (intOf i).toNat)
  case atStart => exact ⟨0, rfl, Nat.zero_le _, H2⟩
  case round =>
    clear H2
    obtain ⟨j, rfl, hj, H4⟩ := hrel
    by_cases hlt : j < q.length
    · obtain ⟨g, cg, ha, hcg, hg, hcell, hfro⟩ := H4.pick3.rowAt (by omega)
      simp only [Value.slice.injEq, true_and] at ha
      obtain ⟨rfl, rfl⟩ := ha
      have ck := hcell j q[j].1 (by simp [hlt])
      have hr : RdB wr.cell? q[j].1 q[j].2 := by
        have h := H4
        rw [bytesAll_at hlt] at h
        exact (h.ac (B := star (rowB q[j].1 q[j].2) (star (diskS px (S.take j) left dead) (star (blk p _ _) (star (row tBytes 1 _ q.length (q.map (·.1))) (star (star (bytesAll (q.take j)) (bytesAll (q.drop (j + 1)))) L))))) (by ac_rfl)).rowRd
      have hlen := HQS.out j hlt
      have hS : Hid (S.take (j + 1) = S.take j ++ [q[j].2]) := Hid.mk' (by
        have hjS : j < S.length := by rw [← HQL.out]; exact hlt
        rw [List.take_succ_eq_append_getElem hjS]
        congr 2
        simp only [← HQ.out, List.getElem_map])
      generalize q[j] = x at ck hr hlen hS
      obtain ⟨xv, xb⟩ := x
      simp only at ck hr hlen
      obtain ⟨ax, cx, hax⟩ := hr.form
      subst hax
      have i1 : (j : Int) < q.length := by omega
      clear hcell hfro
      go_upto_region 7 with fail
      obtain ⟨qx, a1, c1, hqx, H5⟩ := disk_open H4
      have hqxl : qx.length = j := by
        have h := congrArg List.length hqx
        rw [List.length_map, List.length_take, ← HQL.out] at h; omega
      have HQX := Hid.mk' hqx
      have HQXL := Hid.mk' hqxl
      have hqx9 : qx.length ≤ 1000 := by omega
      clear H4 hqx hqxl ck
      obtain ⟨l5, n5, c5, z5⟩ := Holds.facts (H5)
      have hrd : RdB wr.drew.cell? (.slice ax xb.length cx) xb := hr
      go_region_law ((first | (go_simp; go_at_call 175; refine (clone_spec H5.drew hrd hlen).mono ?_; rintro e w6 ⟨v6, rfl, H6⟩; obtain ⟨a6, c6, rfl⟩ := H6.rowRd.form; obtain ⟨l6, n6, cp6, fp6⟩ := H6.swap.facts; have H7 := H6.pick3.alloc #[.slice a6 xb.length c6] tBytes; have hr7 := (H7.toRow 1 1 1 (Nat.le_refl _) (by simp [maxLen]) rfl).rowRd) | (refine step_append rfl _ _ (by rfl) undSecs infoBytes rfl (by decide) (by rfl) (by rfl) H7.drop hr7 (by simp [Value.oneCell']) (by simp [maxLen]; omega) (by omega) ?_; intro v8 w8 H8; obtain ⟨a8, c8, rfl⟩ := H8.rowRd.form; have cp8 := H8.pick3.blkCell; have fp8 := H8.pick3.blkFrozen)))
      all_goals
        go_wp2_with fail
        go_roundw
        case rel =>
          refine ⟨j + 1, by go_num, hlt, ?_⟩
          have H9 := H8.pick3.set 0 (.slice a8 (qx.length + 1) c8)
          refine disk_shut (v := .slice a8 (qx.length + 1) c8) (q := qx ++ [(.slice a6 xb.length c6, xb)]) (by rw [List.map_append, HQX.out, hS.out]; rfl) ?_
          rw [bytesAll_append, bytesAll_one, List.length_append, List.length_singleton, List.map_append]
          exact H9.ac (by ac_rfl)
        case measure => simp [intOf]; omega
    · go_wp2_with fail
      go_ret
      rw [List.take_of_length_le (by rw [← HQL.out]; omega)] at H4
      exact ⟨_, rfl, (disk_shut HQ.out H4.push4).swap⟩
end Sh
