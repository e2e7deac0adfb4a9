/- (*queue.Queue).Next. -/
import Derived.Test.YtmogagcffebbaaaQueueGrow
set_option linter.unusedVariables false
set_option linter.unusedSimpArgs false
namespace Sh
open Go Go.RowKit Go.Proofs
attribute [local go_sem ↓] Go.wp_at_zero Go.wp_at_succ
set_option maxHeartbeats 1000000
set_option maxRecDepth 100000

theorem qnext_none {w : World} {R : Snap} {L : Asrt} {p first : Nat} {X : List It} {added : Int} (H : Holds w R (star (queueA p X first 0 added) L)) :
    Calls Try.prog 26 #[.pointer (some ⟨p, 0, none⟩)] w fun e w' => e = .returned (.tuple #[.agg zeroIt.cells.toArray, .bool false]) ∧ Holds w' R (star (queueA p X first 0 added) L) := by
  obtain ⟨a, c, H1⟩ := queue_open H
  clear H
  obtain ⟨l1, n1, c1, z1⟩ := Holds.facts (H1)
  have H2 := H1.alloc #[.int .i64 0, .int .i64 0, .string ⟨#[]⟩, .slice none 0 0] tItem
  go_enter Try.func26, Try.ntmps26
  go_wp2_with fail
  refine bodyPost_ret (results_cell2 rfl _ _ w.heap.size tItem _ (0, 0) _ rfl H2.blkAt Try.underlying33 rfl (by kernel_rfl)) rfl ?_
  exact ⟨rfl, queue_shut H2.drop⟩
theorem qnext_nil {w : World} {R : Snap} {L : Asrt} (H : Holds w R L) :
    Calls Try.prog 26 #[.pointer none] w fun e w' => e = .returned (.tuple #[.agg zeroIt.cells.toArray, .bool false]) ∧ Holds w' R L := by
  have H2 := H.alloc #[.int .i64 0, .int .i64 0, .string ⟨#[]⟩, .slice none 0 0] tItem
  go_enter Try.func26, Try.ntmps26
  go_wp2_with fail
  refine bodyPost_ret (results_cell2 rfl _ _ w.heap.size tItem _ (0, 0) _ rfl H2.blkAt Try.underlying33 rfl (by kernel_rfl)) rfl ?_
  exact ⟨rfl, H2.drop⟩
theorem qnext_some {w : World} {R : Snap} {L : Asrt} {p first n : Nat} {X : List It} {added : Int} {x : It} {I : List It} (H : Holds w R (star (queueA p X first n added) L)) (hq : QRel X first n (x :: I)) (hX : X.length ≤ 100000) (hv : ∃ ax nx cx, x.v = .slice ax nx cx) :
    Calls Try.prog 26 #[.pointer (some ⟨p, 0, none⟩)] w fun e w' => e = .returned (.tuple #[.agg x.cells.toArray, .bool true]) ∧ Holds w' R (star (queueA p (X.set first zeroIt) ((first + 1) % X.length) I.length added) L) := by
  obtain ⟨q1, q2, rfl, _⟩ := q_next zeroIt hq
  obtain ⟨a, c, H1⟩ := queue_open H
  clear H
  obtain ⟨m, hm⟩ : ∃ m, m = X.length := ⟨_, rfl⟩
  rw [← hm] at H1 q1 ⊢
  have HM := Hid.mk' hm
  obtain ⟨g, cg, ha, hcg, hg, hcell, hfro⟩ := H1.swap.rowAt (by omega)
  simp only [Value.slice.injEq, true_and] at ha
  obtain ⟨rfl, rfl⟩ := ha
  have hxe : ∀ r u, r < 4 → x.cells[r]? = some u → (X.flatMap It.cells)[first * 4 + r]? = some u := fun r u hr hu => by
    have hf : first < X.length := by omega
    rw [flat_get It.cells 4 It.cells_len X first r hf hr]
    rw [List.getElem?_eq_getElem hf, Option.some.injEq] at q2
    rw [q2]; exact hu
  obtain ⟨xi, xk, xn, xv⟩ := x
  obtain ⟨ax, nx, cx, rfl⟩ := hv
  have hng : w.heap.size ≠ g := by omega
  have hm9 : m ≤ 100000 := by omega
  have i1 : (0 : Int) ≤ (first : Int) := by omega
  have i2 : (first : Int) < (m : Int) := by omega
  have hn0 : (((I.length + 1 : Nat) : Int) == 0) = false := by simp; omega
  have hIm : I.length + 1 ≤ m := by have := hq.2.1; omega
  have HXE := Hid.mk' hxe
  clear hxe hq q2 hm hX hcell hfro
  obtain ⟨l4, n4, c4, z4⟩ := Holds.facts (H1)
  obtain ⟨k, hk⟩ : ∃ k, k = I.length + 1 := ⟨_, rfl⟩
  rw [← hk] at H1 c4 hn0
  have hk1 : 1 ≤ k := by omega
  have hk2 : k ≤ 100000 := by omega
  have HK := Hid.mk' hk
  clear hk hIm
  have H2 := H1.alloc #[.int .i64 0, .int .i64 0, .string ⟨#[]⟩, .slice none 0 0] tItem
  go_enter Try.func26, Try.ntmps26
  go_wp2_with fail
  generalize (World.alloc ..) = w0 at H2 ⊢
  generalize w.heap.size = g0 at H2 ⊢
  clear H1 l4 n4 c4 z4
  obtain ⟨cur, hcg2, hcur, hcap, htk, _⟩ := H2.pick3.rowAll
  have hce : ∀ r u, r < 4 → (⟨xi, xk, xn, .slice ax nx cx⟩ : It).cells[r]? = some u → cur[first * 4 + r]? = some u := fun r u hr hu => by
    have h := HXE.out r u hr hu
    rw [← htk, List.getElem?_take] at h
    split at h
    · simpa using h
    · cases h
  have e0 : cur[first * 4]? = some (.int .i64 xi) := hce 0 _ (by omega) rfl
  have e1 : cur[first * 4 + 1]? = some (.int .i64 xk) := hce 1 _ (by omega) rfl
  have e2 : cur[first * 4 + 2]? = some (.string xn) := hce 2 _ (by omega) rfl
  have e3 : cur[first * 4 + 3]? = some (.slice ax nx cx) := hce 3 _ (by omega) rfl
  have cg := cell_of_blk hcg2
  have lg : g < w0.heap.size := (Array.getElem?_eq_some_iff.1 hcg2).1
  have ng : w0.heap.size ≠ g := by omega
  obtain ⟨l5, n5, c5, z5⟩ := Holds.facts (H2.swap)
  clear hce hcg2 hcur hcap htk
  go_region_held3 (fun w' => (∀ o, w'.cell? ⟨p, o, none⟩ = #[.slice (some ⟨g, 0, none⟩) m c, .int .i64 first, .int .i64 k, .int .i64 added][o]?) ∧ (∀ o, w'.cell? ⟨g, o, none⟩ = cur[o]?)) ((repeat' (first | assumption | (with_reducible refine And.intro ?_ ?_) | (with_reducible refine keep_drew ?_) | (with_reducible refine keep_drewN ?_) | (with_reducible refine keep_alloc ?_ (by first | assumption | (simp only [World.size_alloc, World.size_drew, World.size_setCell]; omega))) | (with_reducible refine keep_set ?_ (by first | assumption | omega))))) (fail)
  rename_i hHeld
  clear hHeld l5 n5 c5 z5 cg lg ng e0 e1 e2 e3
  have H3 := ((H2.alloc #[.int .i64 xi, .int .i64 xk, .string xn, .slice ax nx cx] tItem).drew).pick4
  clear H2
  generalize (World.drew (World.alloc _ _)) = w3 at H3 ⊢
  generalize w0.heap.size = gx at H3 ⊢
  obtain ⟨cur3, hcg3, hcur3, hcap3, htk3, _⟩ := H3.rowAll
  have l3 : g < w3.heap.size := (Array.getElem?_eq_some_iff.1 hcg3).1
  have cg3 := cell_of_blk hcg3
  have fg3 := frozen_of_blk hcg3
  have hb3 : first * 4 + 3 < cur3.size := by omega
  have e0 : cur3[first * 4]? = some cur3[first * 4] := Array.getElem?_eq_getElem (by omega)
  have e1 : cur3[first * 4 + 1]? = some cur3[first * 4 + 1] := Array.getElem?_eq_getElem (by omega)
  have e2 : cur3[first * 4 + 2]? = some cur3[first * 4 + 2] := Array.getElem?_eq_getElem (by omega)
  have e3 : cur3[first * 4 + 3]? = some cur3[first * 4 + 3] := Array.getElem?_eq_getElem (by omega)
  generalize cur3[first * 4] = d0 at e0
  generalize cur3[first * 4 + 1] = d1 at e1
  generalize cur3[first * 4 + 2] = d2 at e2
  generalize cur3[first * 4 + 3] = d3 at e3
  obtain ⟨l4, n4, c4, z4⟩ := Holds.facts (H3.pick4)
  clear hcg3 hcur3 hcap3 htk3 hb3
  go_wp2_with fail
  go_still_tail 10, (by kernel_rfl)
  change wpList _ _ _ _ _ w3.drew
  go_wp2_with fail
  have H4 := ((Holds.rowSet4 It.cells It.cells_len (j := first) (c0 := .int .i64 0) (c1 := .int .i64 0) (c2 := .string ⟨#[]⟩) (c3 := .slice none 0 0) H3 zeroIt rfl (by have := HM.out; omega) HM.out.symm).drew).pick4
  clear H3 l3 cg3 fg3 e0 e1 e2 e3 l4 n4 c4 z4
  have H4 : Holds _ R (star (blk p #[.slice (some ⟨g, 0, none⟩) m c, .int .i64 first, .int .i64 k, .int .i64 added] 31) (star (row tItem 4 (.slice (some ⟨g, 0, none⟩) m c) m ((X.set first zeroIt).flatMap It.cells)) (star (blk gx _ tItem) (star (blk g0 _ tItem) L)))) := H4
  generalize (World.drew _) = w4 at H4 ⊢
  obtain ⟨f1, hf1⟩ : ∃ f1, f1 = first + 1 := ⟨_, rfl⟩
  have hfe : (first : Int) + 1 = (f1 : Int) := by omega
  have hfw : IntKind.i64.wrap (f1 : Int) = (f1 : Int) := IntWalk.i64_in _ (by omega)
  obtain ⟨f2, hf2⟩ : ∃ f2, f2 = f1 % m := ⟨_, rfl⟩
  have hft : (f1 : Int).tmod (m : Int) = (f2 : Int) := by rw [Int.tmod_eq_emod_of_nonneg (by omega), hf2]; omega
  have HF1 := Hid.mk' (And.intro hf1 hf2)
  have hm0 : ¬ m = 0 := by omega
  clear hf1 hf2
  obtain ⟨l4, n4, c4, z4⟩ := Holds.facts (H4)
  go_region_law (fail)
  all_goals
    have H5 := (H4.set 1 (.int .i64 f2)).drew
    clear l4 n4 c4 z4
    generalize (World.drew _) = w5 at H5 ⊢
    clear H4 hfe hfw hft
    obtain ⟨l5, n5, c5, z5⟩ := Holds.facts (H5)
    obtain ⟨l6, n6, c6, z6⟩ := Holds.facts (H5.pick3)
    obtain ⟨l7, n7, c7, z7⟩ := Holds.facts (H5.pick4)
    obtain ⟨s1, s2⟩ := Holds.apart H5.pick3
    obtain ⟨s3, s4⟩ := Holds.apart H5.pick4
    obtain ⟨s5, s6⟩ := Holds.apart H5.pick3.pick4
    go_wp2_with fail
    have H7 := (((((H5.set 2 (.int .i64 ((k : Int) - 1))).pick4.set 0 (.int .i64 xi)).set 1 (.int .i64 xk)).set 2 (.string xn)).set 3 (.slice ax nx cx))
    refine bodyPost_ret (results_cell2 rfl _ _ g0 tItem _ (0, 0) _ rfl H7.blkAt Try.underlying33 rfl (by kernel_rfl)) rfl ?_
    refine ⟨rfl, queue_shut (v := .slice (some ⟨g, 0, none⟩) m c) ?_⟩
    have H8 := H7.drop.pick3.drop
    obtain ⟨h1, h2⟩ := HF1.out
    rw [List.length_set, ← HM.out, ← h1, ← h2]
    rw [show (I.length : Int) = (k : Int) - 1 from by have := HK.out; omega]
    exact H8
end Sh
