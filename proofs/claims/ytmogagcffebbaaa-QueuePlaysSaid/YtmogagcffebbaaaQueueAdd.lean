/- (*queue.Queue).Add. -/
import Derived.Test.YtmogagcffebbaaaQueueNext
set_option linter.unusedVariables false
set_option linter.unusedSimpArgs false
namespace Sh
open Go Go.RowKit Go.Proofs
attribute [local go_sem ↓] Go.wp_at_zero Go.wp_at_succ
set_option maxHeartbeats 1000000
set_option maxRecDepth 100000

abbrev tOp : TypeId := 24
theorem qadd_nil {w : World} {R : Snap} {L : Asrt} {kind : Int} {name : ByteArray} {a : Option Addr} {nn c : Nat} (H : Holds w R L) :
    Calls Try.prog 25 #[.pointer none, .agg #[.int .i64 kind, .string name, .slice a nn c]] w fun e w' => e = .returned (.agg zeroIt.cells.toArray) ∧ Holds w' R L := by
  have H2 := (H.garbage (.cells #[.int .i64 kind, .string name, .slice a nn c] tOp)).alloc #[.int .i64 0, .int .i64 0, .string ⟨#[]⟩, .slice none 0 0] tItem
  simp only [World.size_alloc] at H2
  go_enter Try.func25, Try.ntmps25
  go_wp2_with fail
  refine bodyPost_ret (results_cell_row rfl _ _ (w.heap.size + 1) tItem _ (0, 0) _ rfl H2.blkAt Try.underlying33 rfl (by kernel_rfl)) rfl ?_
  exact ⟨rfl, H2.drop⟩
theorem qadd_gen {w : World} {R : Snap} {L : Asrt} {p first n : Nat} {X : List It} {added : Int} {I : List It} {kind : Int} {name : ByteArray} {av : Option Addr} {cv : Nat} {b : List UInt8} (H : Holds w R (star (queueA p X first n added) L)) (hq : QRel X first n I) (hX : X.length ≤ 1000) (hv : ∀ x ∈ X, x.v.oneCell' = true) (hr : ∀ w', Holds w' R L → RdB w'.cell? (.slice av b.length cv) b) (hb : b.length ≤ 1000000) (ha : 0 ≤ added ∧ added ≤ 1000000) :
    Calls Try.prog 25 #[.pointer (some ⟨p, 0, none⟩), .agg #[.int .i64 kind, .string name, .slice av b.length cv]] w fun e w' => ∃ (v' : Value) (X' : List It) (first' : Nat), e = .returned (.agg (⟨added, kind, name, v'⟩ : It).cells.toArray) ∧ QRel X' first' (n + 1) (I ++ [⟨added, kind, name, v'⟩]) ∧ (∀ x ∈ X', x.v.oneCell' = true) ∧ X'.length ≤ max X.length (2 * n + 2) ∧ Holds w' R (star (queueA p X' first' (n + 1) (added + 1)) (star (rowB v' b) L)) := by
  obtain ⟨a, c, H1⟩ := queue_open H
  clear H
  obtain ⟨ha0, ha1⟩ := ha
  have hm9 := hX
  have hnX : n ≤ X.length := hq.2.1
  have HQ := Hid.mk' hq
  have HV := Hid.mk' hv
  have H2 := (H1.alloc #[.int .i64 kind, .string name, .slice av b.length cv] tOp).alloc #[.int .i64 0, .int .i64 0, .string ⟨#[]⟩, .slice none 0 0] tItem
  simp only [World.size_alloc] at H2
  clear hq hv
  obtain ⟨l1, n1, c1, z1⟩ := Holds.facts (H1)
  by_cases hfull : n = X.length
  · have ht : ((n : Int) == (X.length : Int)) = true := by simp [hfull]
    have HF := Hid.mk' hfull
    clear hfull
    go_enter Try.func25, Try.ntmps25
    go_wp2_with fail
    generalize (World.alloc ..) = w2 at H2 ⊢
    generalize w.heap.size + 1 = g0 at H2 ⊢
    generalize w.heap.size = go at H2 ⊢
    clear l1 n1 c1 z1 H1
    obtain ⟨l2, n2, c2, z2⟩ := Holds.facts (H2.pick3)
    go_quiet (fail)
    go_wp2_with fail
    have H3 : Holds _ R (star (queueA p X first n added) (star (blk go #[.int .i64 kind, .string name, .slice av b.length cv] tOp) (star (blk g0 #[.int .i64 0, .int .i64 0, .string ⟨#[]⟩, .slice none 0 0] tItem) L))) := queue_shut (v := .slice a X.length c) ((H2.drewN nq).ac (by ac_rfl))
    clear H2 l2 n2 c2 z2
    refine (grow_spec H3 hX HV.out HQ.out.2.2.1).mono ?_
    rintro e w3 ⟨rfl, H3⟩
    have hq2 : QRel (X.drop first ++ (X.take first ++ List.replicate (X.length + 2) zeroIt)) 0 n I := by
      have h := HQ.out
      rw [HF.out] at h ⊢
      exact q_grow zeroIt X.length h
    have hv2 : ∀ x ∈ X.drop first ++ (X.take first ++ List.replicate (X.length + 2) zeroIt), x.v.oneCell' = true := by
      intro x hx
      rcases List.mem_append.1 hx with h | h
      · exact HV.out x (List.mem_of_mem_drop h)
      · rcases List.mem_append.1 h with h | h
        · exact HV.out x (List.mem_of_mem_take h)
        · rw [List.eq_of_mem_replicate h]; rfl
    have hl2 : (X.drop first ++ (X.take first ++ List.replicate (X.length + 2) zeroIt)).length = 2 * X.length + 2 := by
      have h := HQ.out.2.2.1
      simp only [List.length_append, List.length_drop, List.length_take, List.length_replicate]
      rcases h with h | ⟨h1, h2⟩
      · omega
      · subst h2; subst h1; simp
    have hX2b : (X.drop first ++ (X.take first ++ List.replicate (X.length + 2) zeroIt)).length ≤ max X.length (2 * n + 2) := by rw [hl2, HF.out]; omega
    have hX2 : (X.drop first ++ (X.take first ++ List.replicate (X.length + 2) zeroIt)).length ≤ 2002 := by omega
    have hn2 : n < (X.drop first ++ (X.take first ++ List.replicate (X.length + 2) zeroIt)).length := by omega
    obtain ⟨f2, hf2⟩ : ∃ f2 : Nat, f2 = 0 := ⟨_, rfl⟩
    rw [← hf2] at hq2 H3
    generalize X.drop first ++ (X.take first ++ List.replicate (X.length + 2) zeroIt) = X2 at *
    have HQ2 := Hid.mk' hq2
    have HV2 := Hid.mk' hv2
    have HX2 := Hid.mk' hX2b
    clear hq2 hv2 hl2 hX2b hf2 ht hX hm9 hnX
    have hr0 := hr
    obtain ⟨am, cm, H4⟩ := queue_open H3
    obtain ⟨m, hm⟩ : ∃ m, m = X2.length := ⟨_, rfl⟩
    rw [← hm] at H4 hn2 hX2
    have HM := Hid.mk' hm
    have H5 := H4.pick3
    obtain ⟨l5, n5, c5, z5⟩ := Holds.facts (H5)
    clear hm H3 H4
    go_wp2_with fail
    refine (clone_spec H5 (hr0 _ H5.drop.drop.drop.drop) hb).mono ?_
    rintro e w6 ⟨v6, rfl, H6⟩
    obtain ⟨a6, c6, rfl⟩ := H6.rowRd.form
    have H7 := H6.push4.under fun _ h => star_on_mono h fun _ h => star_on_mono h fun _ => swap_on
    clear H5 H6 l5 n5 c5 z5
    obtain ⟨l7, n7, c7, z7⟩ := Holds.facts (H7)
    go_wp2_with fail
    have H8 := (H7.set 2 (.slice a6 b.length c6)).push3
    clear H7 l7 n7 c7 z7
    generalize (World.setCell ..) = w8 at H8 ⊢
    obtain ⟨g, cg, ham, hcg, hg, _, _⟩ := H8.swap.rowAt (by omega)
    simp only [Value.slice.injEq, true_and] at ham
    obtain ⟨rfl, rfl⟩ := ham
    obtain ⟨l8, n8, c8, z8⟩ := Holds.facts (H8)
    obtain ⟨l9, n9, c9, z9⟩ := Holds.facts (H8.pick3)
    go_region_held3 (fun w' => (∀ o, w'.cell? ⟨p, o, none⟩ = #[.slice (some ⟨g, 0, none⟩) m cm, .int .i64 f2, .int .i64 n, .int .i64 added][o]?) ∧ (∀ o, w'.cell? ⟨go, o, none⟩ = #[.int .i64 kind, .string name, .slice a6 b.length c6][o]?)) ((repeat' (first | assumption | (with_reducible refine And.intro ?_ ?_) | (with_reducible refine keep_drew ?_) | (with_reducible refine keep_drewN ?_) | (with_reducible refine keep_alloc ?_ (by first | assumption | (simp only [World.size_alloc, World.size_drew, World.size_setCell]; omega))) | (with_reducible refine keep_set ?_ (by first | assumption | omega))))) (fail)
    rename_i hHeld
    clear hHeld l8 n8 c8 z8 l9 n9 c9 z9
    have H9 := ((H8.alloc #[.int .i64 added, .int .i64 kind, .string name, .slice a6 b.length c6] tItem).drew).pick3
    clear H8
    generalize (World.drew (World.alloc _ _)) = w9 at H9 ⊢
    generalize w8.heap.size = gi at H9 ⊢
    have hq3 := q_add (⟨added, kind, name, .slice a6 b.length c6⟩ : It) HQ2.out (by rw [← HM.out]; exact hn2)
    obtain ⟨hq3a, hq3b⟩ := hq3
    obtain ⟨s, hs⟩ : ∃ s, s = f2 + n := ⟨_, rfl⟩
    have hf2 : f2 ≤ m := by
      have h := HQ2.out.2.2.1
      have h2 := HM.out
      rcases h with h | ⟨h, _⟩ <;> omega
    have hse : (f2 : Int) + (n : Int) = (s : Int) := by omega
    have hsw : IntKind.i64.wrap (s : Int) = (s : Int) := IntWalk.i64_in _ (by omega)
    obtain ⟨t, ht⟩ : ∃ t, t = s % m := ⟨_, rfl⟩
    have hst : (s : Int).tmod (m : Int) = (t : Int) := by rw [Int.tmod_eq_emod_of_nonneg (by omega), ht]; omega
    have hm0 : ¬ m = 0 := by omega
    have htm : t < m := by rw [ht]; exact Nat.mod_lt _ (by omega)
    rw [← hs, ← HM.out, ← ht] at hq3a hq3b
    have HQ3 := Hid.mk' hq3b
    have i1 : (0 : Int) ≤ (t : Int) := by omega
    have i2 : (t : Int) < (m : Int) := by omega
    obtain ⟨cur3, hcg3, hcur3, hcap3, htk3, _⟩ := H9.rowAll
    have l3 : g < w9.heap.size := (Array.getElem?_eq_some_iff.1 hcg3).1
    have cg3 := cell_of_blk hcg3
    have fg3 := frozen_of_blk hcg3
    have hb3 : t * 4 + 3 < cur3.size := by omega
    have e0 : cur3[t * 4]? = some cur3[t * 4] := Array.getElem?_eq_getElem (by omega)
    have e1 : cur3[t * 4 + 1]? = some cur3[t * 4 + 1] := Array.getElem?_eq_getElem (by omega)
    have e2 : cur3[t * 4 + 2]? = some cur3[t * 4 + 2] := Array.getElem?_eq_getElem (by omega)
    have e3 : cur3[t * 4 + 3]? = some cur3[t * 4 + 3] := Array.getElem?_eq_getElem (by omega)
    generalize cur3[t * 4] = d0 at e0
    generalize cur3[t * 4 + 1] = d1 at e1
    generalize cur3[t * 4 + 2] = d2 at e2
    generalize cur3[t * 4 + 3] = d3 at e3
    obtain ⟨l4, n4, c4, z4⟩ := Holds.facts (H9.pick3)
    obtain ⟨l5, n5, c5, z5⟩ := Holds.facts (H9.swap)
    clear hcg3 hcur3 hcap3 htk3 hb3 hs ht hq3a hq3b
    go_wp2_with fail
    go_still_tail 21, (by kernel_rfl)
    change wpList _ _ _ _ _ w9.drew
    go_upto_region 8 with fail
    have H10 := ((Holds.rowSet4 It.cells It.cells_len (j := t) (c0 := .int .i64 added) (c1 := .int .i64 kind) (c2 := .string name) (c3 := .slice a6 b.length c6) H9 ⟨added, kind, name, .slice a6 b.length c6⟩ rfl (by rw [← HM.out]; exact htm) HM.out.symm).drew).pick3
    clear H9 l3 cg3 fg3 e0 e1 e2 e3 l4 n4 c4 z4 l5 n5 c5 z5 hse hsw hst
    generalize (World.drew _) = w10 at H10 ⊢
    replace H10 := H10.pick4.drop
    obtain ⟨l14, n14, c14, z14⟩ := Holds.facts (H10)
    obtain ⟨l15, n15, c15, z15⟩ := Holds.facts (H10.pick3)
    obtain ⟨l16, n16, c16, z16⟩ := Holds.facts (H10.pick4)
    obtain ⟨s1, s2⟩ := Holds.apart H10.pick3
    obtain ⟨s3, s4⟩ := Holds.apart H10.pick4
    obtain ⟨s5, s6⟩ := Holds.apart H10.pick3.pick4
    go_wp2_with fail
    have H12 := ((((((H10.set 2 (.int .i64 ((n : Int) + 1))).set 3 (.int .i64 (added + 1))).pick4.set 0 (.int .i64 added)).set 1 (.int .i64 kind)).set 2 (.string name)).set 3 (.slice a6 b.length c6))
    refine bodyPost_ret (results_cell_row rfl _ _ g0 tItem _ (0, 0) _ rfl H12.blkAt Try.underlying33 rfl (by kernel_rfl)) rfl ?_
    refine ⟨.slice a6 b.length c6, X2.set t ⟨added, kind, name, .slice a6 b.length c6⟩, f2, rfl, HQ3.out, ?_, by rw [List.length_set]; exact HX2.out, queue_shut (v := .slice (some ⟨g, 0, none⟩) m cm) ?_⟩
    · intro x hx
      rcases List.mem_or_eq_of_mem_set hx with h1 | h1
      · exact HV2.out x h1
      · rw [h1]; rfl
    · rw [List.length_set, ← HM.out]
      exact H12.drop.pick3.drop
  · have ht : ((n : Int) == (X.length : Int)) = false := by simp; omega
    go_enter Try.func25, Try.ntmps25
    go_wp2_with fail
    generalize (World.alloc ..) = w2 at H2 ⊢
    generalize w.heap.size + 1 = g0 at H2 ⊢
    generalize w.heap.size = go at H2 ⊢
    clear l1 n1 c1 z1 H1
    obtain ⟨l2, n2, c2, z2⟩ := Holds.facts (H2.pick3)
    go_quiet (fail)
    go_upto_region 5 with fail
    have H3 : Holds _ R (star (queueA p X first n added) (star (blk go #[.int .i64 kind, .string name, .slice av b.length cv] tOp) (star (blk g0 #[.int .i64 0, .int .i64 0, .string ⟨#[]⟩, .slice none 0 0] tItem) L))) := queue_shut (v := .slice a X.length c) ((H2.drewN nq).ac (by ac_rfl))
    clear H2 l2 n2 c2 z2
    generalize (World.drewN ..) = w3 at H3 ⊢
    have hq2 := HQ.out
    have hv2 := HV.out
    have hX2b : X.length ≤ max X.length (2 * n + 2) := by omega
    have hX2 : X.length ≤ 2002 := by omega
    have hn2 : n < X.length := by omega
    obtain ⟨f2, hf2⟩ : ∃ f2 : Nat, f2 = first := ⟨_, rfl⟩
    rw [← hf2] at hq2 H3
    obtain ⟨X2, hXX⟩ : ∃ X2, X2 = X := ⟨_, rfl⟩
    rw [← hXX] at hX2 hn2 H3 hq2 hv2
    have HX2 : Hid (X2.length ≤ max X.length (2 * n + 2)) := Hid.mk' (by rw [hXX]; exact hX2b)
    have HQ2 := Hid.mk' hq2
    have HV2 := Hid.mk' hv2
    clear hq2 hv2 hX2b hf2 ht hX hm9 hnX hfull hXX
    have hr0 := hr
    obtain ⟨am, cm, H4⟩ := queue_open H3
    obtain ⟨m, hm⟩ : ∃ m, m = X2.length := ⟨_, rfl⟩
    rw [← hm] at H4 hn2 hX2
    have HM := Hid.mk' hm
    have H5 := H4.pick3
    obtain ⟨l5, n5, c5, z5⟩ := Holds.facts (H5)
    clear hm H3 H4
    go_wp2_with fail
    refine (clone_spec H5 (hr0 _ H5.drop.drop.drop.drop) hb).mono ?_
    rintro e w6 ⟨v6, rfl, H6⟩
    obtain ⟨a6, c6, rfl⟩ := H6.rowRd.form
    have H7 := H6.push4.under fun _ h => star_on_mono h fun _ h => star_on_mono h fun _ => swap_on
    clear H5 H6 l5 n5 c5 z5
    obtain ⟨l7, n7, c7, z7⟩ := Holds.facts (H7)
    go_wp2_with fail
    have H8 := (H7.set 2 (.slice a6 b.length c6)).push3
    clear H7 l7 n7 c7 z7
    generalize (World.setCell ..) = w8 at H8 ⊢
    obtain ⟨g, cg, ham, hcg, hg, _, _⟩ := H8.swap.rowAt (by omega)
    simp only [Value.slice.injEq, true_and] at ham
    obtain ⟨rfl, rfl⟩ := ham
    obtain ⟨l8, n8, c8, z8⟩ := Holds.facts (H8)
    obtain ⟨l9, n9, c9, z9⟩ := Holds.facts (H8.pick3)
    go_region_held3 (fun w' => (∀ o, w'.cell? ⟨p, o, none⟩ = #[.slice (some ⟨g, 0, none⟩) m cm, .int .i64 f2, .int .i64 n, .int .i64 added][o]?) ∧ (∀ o, w'.cell? ⟨go, o, none⟩ = #[.int .i64 kind, .string name, .slice a6 b.length c6][o]?)) ((repeat' (first | assumption | (with_reducible refine And.intro ?_ ?_) | (with_reducible refine keep_drew ?_) | (with_reducible refine keep_drewN ?_) | (with_reducible refine keep_alloc ?_ (by first | assumption | (simp only [World.size_alloc, World.size_drew, World.size_setCell]; omega))) | (with_reducible refine keep_set ?_ (by first | assumption | omega))))) (fail)
    rename_i hHeld
    clear hHeld l8 n8 c8 z8 l9 n9 c9 z9
    have H9 := ((H8.alloc #[.int .i64 added, .int .i64 kind, .string name, .slice a6 b.length c6] tItem).drew).pick3
    clear H8
    generalize (World.drew (World.alloc _ _)) = w9 at H9 ⊢
    generalize w8.heap.size = gi at H9 ⊢
    have hq3 := q_add (⟨added, kind, name, .slice a6 b.length c6⟩ : It) HQ2.out (by rw [← HM.out]; exact hn2)
    obtain ⟨hq3a, hq3b⟩ := hq3
    obtain ⟨s, hs⟩ : ∃ s, s = f2 + n := ⟨_, rfl⟩
    have hf2 : f2 ≤ m := by
      have h := HQ2.out.2.2.1
      have h2 := HM.out
      rcases h with h | ⟨h, _⟩ <;> omega
    have hse : (f2 : Int) + (n : Int) = (s : Int) := by omega
    have hsw : IntKind.i64.wrap (s : Int) = (s : Int) := IntWalk.i64_in _ (by omega)
    obtain ⟨t, ht⟩ : ∃ t, t = s % m := ⟨_, rfl⟩
    have hst : (s : Int).tmod (m : Int) = (t : Int) := by rw [Int.tmod_eq_emod_of_nonneg (by omega), ht]; omega
    have hm0 : ¬ m = 0 := by omega
    have htm : t < m := by rw [ht]; exact Nat.mod_lt _ (by omega)
    rw [← hs, ← HM.out, ← ht] at hq3a hq3b
    have HQ3 := Hid.mk' hq3b
    have i1 : (0 : Int) ≤ (t : Int) := by omega
    have i2 : (t : Int) < (m : Int) := by omega
    obtain ⟨cur3, hcg3, hcur3, hcap3, htk3, _⟩ := H9.rowAll
    have l3 : g < w9.heap.size := (Array.getElem?_eq_some_iff.1 hcg3).1
    have cg3 := cell_of_blk hcg3
    have fg3 := frozen_of_blk hcg3
    have hb3 : t * 4 + 3 < cur3.size := by omega
    have e0 : cur3[t * 4]? = some cur3[t * 4] := Array.getElem?_eq_getElem (by omega)
    have e1 : cur3[t * 4 + 1]? = some cur3[t * 4 + 1] := Array.getElem?_eq_getElem (by omega)
    have e2 : cur3[t * 4 + 2]? = some cur3[t * 4 + 2] := Array.getElem?_eq_getElem (by omega)
    have e3 : cur3[t * 4 + 3]? = some cur3[t * 4 + 3] := Array.getElem?_eq_getElem (by omega)
    generalize cur3[t * 4] = d0 at e0
    generalize cur3[t * 4 + 1] = d1 at e1
    generalize cur3[t * 4 + 2] = d2 at e2
    generalize cur3[t * 4 + 3] = d3 at e3
    obtain ⟨l4, n4, c4, z4⟩ := Holds.facts (H9.pick3)
    obtain ⟨l5, n5, c5, z5⟩ := Holds.facts (H9.swap)
    clear hcg3 hcur3 hcap3 htk3 hb3 hs ht hq3a hq3b
    go_wp2_with fail
    go_still_tail 21, (by kernel_rfl)
    change wpList _ _ _ _ _ w9.drew
    go_upto_region 8 with fail
    have H10 := ((Holds.rowSet4 It.cells It.cells_len (j := t) (c0 := .int .i64 added) (c1 := .int .i64 kind) (c2 := .string name) (c3 := .slice a6 b.length c6) H9 ⟨added, kind, name, .slice a6 b.length c6⟩ rfl (by rw [← HM.out]; exact htm) HM.out.symm).drew).pick3
    clear H9 l3 cg3 fg3 e0 e1 e2 e3 l4 n4 c4 z4 l5 n5 c5 z5 hse hsw hst
    generalize (World.drew _) = w10 at H10 ⊢
    replace H10 := H10.pick4.drop
    obtain ⟨l14, n14, c14, z14⟩ := Holds.facts (H10)
    obtain ⟨l15, n15, c15, z15⟩ := Holds.facts (H10.pick3)
    obtain ⟨l16, n16, c16, z16⟩ := Holds.facts (H10.pick4)
    obtain ⟨s1, s2⟩ := Holds.apart H10.pick3
    obtain ⟨s3, s4⟩ := Holds.apart H10.pick4
    obtain ⟨s5, s6⟩ := Holds.apart H10.pick3.pick4
    go_wp2_with fail
    have H12 := ((((((H10.set 2 (.int .i64 ((n : Int) + 1))).set 3 (.int .i64 (added + 1))).pick4.set 0 (.int .i64 added)).set 1 (.int .i64 kind)).set 2 (.string name)).set 3 (.slice a6 b.length c6))
    refine bodyPost_ret (results_cell_row rfl _ _ g0 tItem _ (0, 0) _ rfl H12.blkAt Try.underlying33 rfl (by kernel_rfl)) rfl ?_
    refine ⟨.slice a6 b.length c6, X2.set t ⟨added, kind, name, .slice a6 b.length c6⟩, f2, rfl, HQ3.out, ?_, by rw [List.length_set]; exact HX2.out, queue_shut (v := .slice (some ⟨g, 0, none⟩) m cm) ?_⟩
    · intro x hx
      rcases List.mem_or_eq_of_mem_set hx with h1 | h1
      · exact HV2.out x h1
      · rw [h1]; rfl
    · rw [List.length_set, ← HM.out]
      exact H12.drop.pick3.drop
theorem qadd_spec {w : World} {R : Snap} {L : Asrt} {p first n : Nat} {X : List It} {added : Int} {I : List It} {kind : Int} {name : ByteArray} {v : Value} {b : List UInt8} (H : Holds w R (star (queueA p X first n added) L)) (hq : QRel X first n I) (hX : X.length ≤ 1000) (hv : ∀ x ∈ X, x.v.oneCell' = true) (hr : RdB R.cell? v b) (hb : b.length ≤ 1000000) (ha : 0 ≤ added ∧ added ≤ 1000000) :
    Calls Try.prog 25 #[.pointer (some ⟨p, 0, none⟩), .agg #[.int .i64 kind, .string name, v]] w fun e w' => ∃ (R' : Snap) (v' : Value) (X' : List It) (first' : Nat), R.le R' ∧ RdB R'.cell? v' b ∧ e = .returned (.agg (⟨added, kind, name, v'⟩ : It).cells.toArray) ∧ QRel X' first' (n + 1) (I ++ [⟨added, kind, name, v'⟩]) ∧ (∀ x ∈ X', x.v.oneCell' = true) ∧ X'.length ≤ max X.length (2 * n + 2) ∧ Holds w' R' (star (queueA p X' first' (n + 1) (added + 1)) L) := by
  obtain ⟨av, cv, rfl⟩ := hr.form
  refine (qadd_gen H hq hX hv (fun w' h => Rd.world hr h) hb ha).mono ?_
  rintro e w' ⟨v', X', f', he, hq', ho', hx', H'⟩
  obtain ⟨R2, le2, H2, hr2⟩ := H'.swap.freezeRow
  exact ⟨R2, v', X', f', le2, hr2, he, hq', ho', hx', H2⟩
end Sh
