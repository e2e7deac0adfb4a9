/- sherdref44.B: Put, Take, Double. -/
import Derived.Test.YtmogagcffebbaaaBagTake
import Derived.Test.YtmogagcffebbaaaMsgRef
set_option linter.unusedVariables false
set_option linter.unusedSimpArgs false
namespace Sh
open Go Go.RowKit Go.Proofs
attribute [local go_sem ↓] Go.wp_at_zero Go.wp_at_succ
set_option maxHeartbeats 1000000
set_option maxRecDepth 100000

abbrev tRB : TypeId := 59
theorem rbput_spec {w : World} {R : Snap} {L : Asrt} {pb : Nat} {vb v : Value} {J k : List Ms} (H : Holds w R (star (blk pb #[vb] tRB) L)) (hJ : Rd R.cell? 13 vb J.length (J.flatMap Ms.cells)) (hJm : ∀ m ∈ J, m.Rd R.cell?) (hr : Rd R.cell? 13 v k.length (k.flatMap Ms.cells)) (hk : ∀ m ∈ k, m.Rd R.cell?) (hz : ∀ m ∈ k, m.Sz) (hb : J.length + k.length ≤ 100000) :
    Calls Try.prog 38 #[.pointer (some ⟨pb, 0, none⟩), v] w fun e w' => e = .returned (.tuple #[]) ∧ ∃ R', R.le R' ∧ ∃ vb', Rd R'.cell? 13 vb' (J ++ k.filter msgOk).length ((J ++ k.filter msgOk).flatMap Ms.cells) ∧ Holds w' R' (star (blk pb #[vb'] tRB) L) := by
  obtain ⟨a, c, rfl⟩ := hr.form
  obtain ⟨n, hn⟩ : ∃ n, n = k.length := ⟨_, rfl⟩
  have HN := Hid.mk' hn
  have HR := Hid.mk' hr
  have HK := Hid.mk' hk
  have HJM := Hid.mk' hJm
  have HZ := Hid.mk' hz
  have HJ := Hid.mk' hJ
  rw [← hn] at hb ⊢
  clear hr hk hJ hz hn hJm
  go_enter Try.func38, Try.ntmps38
  go_wp2_with fail
  go_loopw [4] (fun i wx => ∃ (j : Nat) (R1 : Snap) (v1 : Value) (J1 : List Ms), i = .int .i64 j ∧ j ≤ n ∧ R.le R1 ∧ Hid (J1 = J ++ (k.take j).filter msgOk) ∧ Hid (Rd R1.cell? 13 v1 J1.length (J1.flatMap Ms.cells)) ∧ J1.length ≤ J.length + j ∧ Holds wx R1 (star (blk pb #[v1] tRB) L)) (fun i _ => n - (intOf i).toNat)
  case atStart => exact ⟨0, R, vb, J, rfl, Nat.zero_le _, Snap.le.refl _, Hid.mk' (by simp), HJ, Nat.le_refl _, H⟩
  case round =>
    clear H HJ
    obtain ⟨j, R1, v1, J1, rfl, hj, le1, hC, hA, hlen, H1⟩ := hrel
    by_cases hlt : j < n
    · have hjk : j < k.length := by rw [← HN.out]; exact hlt
      have hz := HZ.out k[j] (List.getElem_mem hjk)
      have hm := (HK.out k[j] (List.getElem_mem hjk)).le le1
      have hone := Hid.mk' (show ∀ u ∈ J1.flatMap Ms.cells, u.oneCell' = true from by
        rw [hC.out]
        intro u hu
        rw [List.flatMap_append, List.mem_append] at hu
        rcases hu with hu | hu
        · exact msgs_one HJM.out u hu
        · obtain ⟨x, hx, hu⟩ := List.mem_flatMap.1 hu
          exact (HK.out x (List.mem_of_mem_take (List.mem_filter.1 hx).1)).one u hu)
      obtain ⟨bl, ol, rfl, hx⟩ := rd_elt (f := Ms.cells) Ms.cells_len (Rd.le HR.out le1) (by decide) hjk
      have hT : (k.take (j + 1)).filter msgOk = (k.take j).filter msgOk ++ (if msgOk k[j] = true then [k[j]] else []) := by
        rw [List.take_succ_eq_append_getElem hjk, List.filter_append]
        simp only [List.filter_cons, List.filter_nil]
      generalize k[j] = y at hx hm hz hT
      have HT := Hid.mk' hT
      have HM := Hid.mk' hm
      have HZY := Hid.mk' hz
      obtain ⟨kind, from_, to_, ballot, name, attempt, epoch, mark, size, what, vw, vn, vd, who, names, data⟩ := y
      obtain ⟨hw, hn, hd⟩ := hm
      obtain ⟨z1, z2, z3, z4, z5⟩ := hz
      simp only at z1 z2 z3 z4 z5 hw hn hd
      obtain ⟨aw, cw, rfl⟩ := hw.form
      obtain ⟨an, cn, rfl⟩ := hn.form
      obtain ⟨ad, cd, rfl⟩ := hd.form
      have m0 : R1.cell? ⟨bl, ol + j * 13, none⟩ = some (.int .i64 kind) := hx 0 _ (by omega) rfl
      have m1 : R1.cell? ⟨bl, ol + j * 13 + 1, none⟩ = some (.int .i64 from_) := hx 1 _ (by omega) rfl
      have m2 : R1.cell? ⟨bl, ol + j * 13 + 2, none⟩ = some (.int .i64 to_) := hx 2 _ (by omega) rfl
      have m3 : R1.cell? ⟨bl, ol + j * 13 + 3, none⟩ = some (.int .i64 ballot) := hx 3 _ (by omega) rfl
      have m4 : R1.cell? ⟨bl, ol + j * 13 + 4, none⟩ = some (.string name) := hx 4 _ (by omega) rfl
      have m5 : R1.cell? ⟨bl, ol + j * 13 + 5, none⟩ = some (.int .i64 attempt) := hx 5 _ (by omega) rfl
      have m6 : R1.cell? ⟨bl, ol + j * 13 + 6, none⟩ = some (.int .i64 epoch) := hx 6 _ (by omega) rfl
      have m7 : R1.cell? ⟨bl, ol + j * 13 + 7, none⟩ = some (.int .i64 mark) := hx 7 _ (by omega) rfl
      have m8 : R1.cell? ⟨bl, ol + j * 13 + 8, none⟩ = some (.int .i64 size) := hx 8 _ (by omega) rfl
      have m9 : R1.cell? ⟨bl, ol + j * 13 + 9, none⟩ = some (.int .i64 what) := hx 9 _ (by omega) rfl
      have m10 : R1.cell? ⟨bl, ol + j * 13 + 10, none⟩ = some (.slice aw who.length cw) := hx 10 _ (by omega) rfl
      have m11 : R1.cell? ⟨bl, ol + j * 13 + 11, none⟩ = some (.slice an names.length cn) := hx 11 _ (by omega) rfl
      have m12 : R1.cell? ⟨bl, ol + j * 13 + 12, none⟩ = some (.slice ad data.length cd) := hx 12 _ (by omega) rfl
      have hbl := Snap.someBlk m0
      obtain ⟨l1, n1, c1⟩ := Holds.ruleFacts (H1) hbl
      clear hx hw hn hd hT
      obtain ⟨a1, c1', hv1⟩ := hA.out.form
      subst hv1
      obtain ⟨l2, n2, c2, z2⟩ := Holds.facts (H1)
      go_wp2_with fail
      refine (rright25_spec (⟨kind, from_, to_, ballot, name, attempt, epoch, mark, size, what, .slice aw who.length cw, .slice an names.length cn, .slice ad data.length cd, who, names, data⟩ : Ms) H1 HM.out HZY.out).mono ?_
      rintro e w3 ⟨rfl, H3⟩
      clear H1 l1 n1 c1 l2 n2 c2 z2
      cases hok : msgOk (⟨kind, from_, to_, ballot, name, attempt, epoch, mark, size, what, .slice aw who.length cw, .slice an names.length cn, .slice ad data.length cd, who, names, data⟩ : Ms) with
      | false =>
        go_wp2_with fail
        go_roundw
        case rel =>
          refine ⟨j + 1, R1, _, J1, by go_num, hlt, le1, Hid.mk' ?_, hA, by omega, H3⟩
          rw [HT.out, hok, hC.out]; simp
        case measure => simp [intOf]; omega
      | true =>
        have hJ9 : J1.length ≤ 100000 := by omega
        obtain ⟨l1, n1, c1⟩ := Holds.ruleFacts (H3) hbl
        obtain ⟨l2, n2, c2, z2⟩ := Holds.facts (H3)
        go_wp2_with fail
        have H4 : Holds _ R1 (star (row tMsg 13 _ 0 []) _) := (((H3.alloc #[] tMsg).toRow 13 0 0 (Nat.le_refl _) (Nat.zero_le _) rfl)).drew
        have H4b : Holds _ R1 (star (row tMsg 13 _ 0 []) _) := ((((H3.alloc #[] tMsg).alloc #[.int .i64 kind, .int .i64 from_, .int .i64 to_, .int .i64 ballot, .string name, .int .i64 attempt, .int .i64 epoch, .int .i64 mark, .int .i64 size, .int .i64 what, .slice aw who.length cw, .slice an names.length cn, .slice ad data.length cd] tMsg).swap.toRow 13 0 0 (Nat.le_refl _) (Nat.zero_le _) rfl)).drew
        have H4c : Holds _ R1 (star (row tMsg 13 _ 0 []) _) := ((((H3.alloc #[.int .i64 kind, .int .i64 from_, .int .i64 to_, .int .i64 ballot, .string name, .int .i64 attempt, .int .i64 epoch, .int .i64 mark, .int .i64 size, .int .i64 what, .slice aw who.length cw, .slice an names.length cn, .slice ad data.length cd] tMsg).alloc #[] tMsg).toRow 13 0 0 (Nat.le_refl _) (Nat.zero_le _) rfl)).drew
        have hr4 := Rd.world hA.out H4
        have hr4b := Rd.world hA.out H4b
        have hr4c := Rd.world hA.out H4c
        simp only [World.size_alloc] at H4 H4b H4c
        have hln : (0 + J1.length) ≤ maxLen := by simp only [maxLen]; omega
        go_region_law (first | (refine step_append rfl _ _ (by rfl) undMsgs infoMsg rfl (by decide) (by rfl) (by rfl) H4 hr4 hone.out hln (by omega) ?_; intro v5 w5 H5; obtain ⟨l5, n5, k5, f5⟩ := Holds.facts H5.swap; obtain ⟨l6, n6, k6⟩ := Holds.ruleFacts H5 hbl) | (refine step_append rfl _ _ (by rfl) undMsgs infoMsg rfl (by decide) (by rfl) (by rfl) H4b hr4b hone.out hln (by omega) ?_; intro v5 w5 H5; obtain ⟨l5, n5, k5, f5⟩ := Holds.facts H5.pick3; obtain ⟨l6, n6, k6⟩ := Holds.ruleFacts H5 hbl; have hr6 : Rd w5.cell? 13 _ 1 _ := (H5.swap.toRow 13 1 1 (Nat.le_refl _) (by simp [maxLen]) rfl).rowRd; have H6 := H5.drop2) | (refine step_append rfl _ _ (by rfl) undMsgs infoMsg rfl (by decide) (by rfl) (by rfl) H4c hr4c hone.out hln (by omega) ?_; intro v5 w5 H5; obtain ⟨l5, n5, k5, f5⟩ := Holds.facts H5.pick3; obtain ⟨l6, n6, k6⟩ := Holds.ruleFacts H5 hbl; have hr6 : Rd w5.cell? 13 _ 1 _ := (H5.swap.toRow 13 1 1 (Nat.le_refl _) (by simp [maxLen]) rfl).rowRd; have H6 := H5.drop2) | (refine step_append rfl _ _ (by rfl) undMsgs infoMsg rfl (by decide) (by rfl) (by rfl) H6 hr6 (by simp [Value.oneCell']) (by simp only [maxLen]; omega) (by omega) ?_; intro v7 w7 H7; obtain ⟨a7, c7, rfl⟩ := H7.rowRd.form; have k8 := H7.swap.blkCell; have z8 := H7.swap.blkFrozen) | (have H6 := H5.alloc #[.int .i64 kind, .int .i64 from_, .int .i64 to_, .int .i64 ballot, .string name, .int .i64 attempt, .int .i64 epoch, .int .i64 mark, .int .i64 size, .int .i64 what, .slice aw who.length cw, .slice an names.length cn, .slice ad data.length cd] tMsg; have hr6 : Rd _ 13 _ 1 _ := (H6.toRow 13 1 1 (Nat.le_refl _) (by simp [maxLen]) rfl).rowRd; refine step_append rfl _ _ (by rfl) undMsgs infoMsg rfl (by decide) (by rfl) (by rfl) H6.drop hr6 (by simp [Value.oneCell']) (by simp only [maxLen]; omega) (by omega) ?_; intro v7 w7 H7; obtain ⟨a7, c7, rfl⟩ := H7.rowRd.form; have k8 := H7.swap.blkCell; have z8 := H7.swap.blkFrozen))
        all_goals
          go_wp2_with fail
          have H8 := H7.swap.set 0 (.slice a7 (0 + J1.length + 1) c7)
          rw [Nat.zero_add, List.nil_append] at H8
          obtain ⟨R7, le7, H9, hr7⟩ := H8.swap.freezeRow
          go_roundw
          case rel =>
            refine ⟨j + 1, R7, .slice a7 (J1.length + 1) c7, J1 ++ [(⟨kind, from_, to_, ballot, name, attempt, epoch, mark, size, what, .slice aw who.length cw, .slice an names.length cn, .slice ad data.length cd, who, names, data⟩ : Ms)], by go_num, hlt, le1.trans le7, Hid.mk' ?_, Hid.mk' ?_, by rw [List.length_append, List.length_singleton]; omega, H9⟩
            · rw [HT.out, hok, hC.out]; simp
            · rw [List.length_append, List.length_singleton, List.flatMap_append]; exact hr7
          case measure => simp [intOf]; omega
    · have h1 : k.take j = k := List.take_of_length_le (by have := HN.out; omega)
      have hC2 := hC.out
      have hA2 := hA.out
      obtain ⟨a1, c1', hv1⟩ := hA.out.form
      subst hv1
      rw [h1] at hC2
      rw [hC2] at hA2 H1
      go_wp2_with fail
      go_end0
      exact ⟨rfl, R1, le1, _, hA2, H1⟩
end Sh
