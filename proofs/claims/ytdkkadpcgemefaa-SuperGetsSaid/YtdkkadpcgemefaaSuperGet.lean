/- super.Get. -/
import Derived.Test.YtdkkadpcgemefaaSuper
set_option linter.unusedVariables false
set_option linter.unusedSimpArgs false
namespace Sh
open Go Go.RowKit Go.Proofs
attribute [local go_sem ↓] Go.wp_at_zero Go.wp_at_succ
set_option maxHeartbeats 1000000
set_option maxRecDepth 100000

def supAns (q : Bool) (f d s : Int) : Bool × Int × Int × Int := if q = true then (true, f, d, s) else (false, 0, 0, 0)
def supGot (b : List UInt8) : Bool × Int × Int × Int :=
  if clearB b = true then (true, 0, 0, 0) else supAns (openOk b && supSays b) (supF (b.take 60)) (supD (b.take 60)) (supS (b.take 60))
abbrev supRet (g : Bool × Int × Int × Int) : Value := .tuple #[supV g.2.1 g.2.2.1 g.2.2.2, .bool g.1]
theorem supGet_spec {w : World} {R : Snap} {L : Asrt} {pt : Nat} {v : Value} {b : List UInt8} (H : Holds w R L) (hT : R.blk pt = some (.cells (rowC 256) tabT (0, 0))) (hr : RdB R.cell? v b) :
    Calls Try.prog 127 #[.pointer (some ⟨pt, 0, none⟩), v] w fun e w' => e = .returned (supRet (supGot b)) ∧ Holds w' R L := by
  have hr0 := hr
  obtain ⟨a, c, rfl⟩ := hr.form
  have hclr : ∀ {w R L}, Holds w R L → RdB R.cell? (.slice a b.length c) b → Calls Try.prog 83 #[.slice a b.length c] w fun e w' => e = .returned (.bool (clearB b)) ∧ Holds w' R L := fun H h => sclear_spec H (h.world H)
  have hopn : ∀ {w R L}, Holds w R L → R.blk pt = some (.cells (rowC 256) tabT (0, 0)) → RdB R.cell? (.slice a b.length c) b → Calls Try.prog 81 #[.pointer (some ⟨pt, 0, none⟩), .slice a b.length c] w fun e w' => ∃ o, e = .returned (.tuple #[o, .bool (openOk b)]) ∧ Holds w' R (star (rowB o (openP b)) L) := fun H hT h => sopen_spec H hT h
  have H0 := H.alloc #[.int .i64 0, .int .i64 0, .int .i64 0] tSuper
  unfold supGot
  cases hc : clearB b with
  | true =>
    rw [if_pos rfl]
    rw [hc] at hclr
    clear hc
    go_enter Try.func127, Try.ntmps127
    go_wp2_with fail
    generalize (World.alloc ..) = w0 at H0 ⊢
    generalize w.heap.size = g0 at H0 ⊢
    refine (hclr H0 hr0).mono ?_
    rintro e w1 ⟨rfl, H1⟩
    obtain ⟨l1, n1, c1, z1⟩ := Holds.facts (H1)
    go_wp2_with fail
    have H2 := ((H1.set 0 (.int .i64 0)).set 1 (.int .i64 0)).set 2 (.int .i64 0)
    refine bodyPost_ret (results_cell2 rfl _ _ g0 tSuper _ (0, 0) _ rfl H2.blkAt Try.underlying146 rfl (by kernel_rfl)) rfl ?_
    exact ⟨rfl, H2.drop⟩
  | false =>
    rw [if_neg (by decide)]
    rw [hc] at hclr
    clear hc
    cases ho : openOk b with
    | false =>
      rw [Bool.false_and, supAns, if_neg (by decide)]
      rw [ho] at hopn
      clear ho
      go_enter Try.func127, Try.ntmps127
      go_wp2_with fail
      generalize (World.alloc ..) = w0 at H0 ⊢
      generalize w.heap.size = g0 at H0 ⊢
      refine (hclr H0 hr0).mono ?_
      rintro e w1 ⟨rfl, H1⟩
      clear H0
      go_wp2_with fail
      refine (hopn H1 hT hr0).mono ?_
      rintro e w2 ⟨o2, rfl, H2⟩
      obtain ⟨l2, n2, c2, z2⟩ := Holds.facts (H2.swap)
      go_wp2_with fail
      have H3 := ((H2.swap.set 0 (.int .i64 0)).set 1 (.int .i64 0)).set 2 (.int .i64 0)
      refine bodyPost_ret (results_cell2 rfl _ _ g0 tSuper _ (0, 0) _ rfl H3.blkAt Try.underlying146 rfl (by kernel_rfl)) rfl ?_
      exact ⟨rfl, H3.drop.drop⟩
    | true =>
      rw [Bool.true_and]
      rw [ho] at hopn
      have hop : openP b = b.take 60 := by rw [openP, if_pos ho]
      have hl6 : (b.take 60).length = 60 := by have := (open_is ho).1; simp; omega
      have hF := valB_lt ((b.take 60).drop 2 |>.take 4)
      have hD := valB_lt ((b.take 60).drop 6 |>.take 4)
      have hS := valB_lt ((b.take 60).drop 1 |>.take 1)
      rw [show (((b.take 60).drop 2).take 4).length = 4 by simp [List.length_take] at hl6 ⊢; omega] at hF
      rw [show (((b.take 60).drop 6).take 4).length = 4 by simp [List.length_take] at hl6 ⊢; omega] at hD
      rw [show (((b.take 60).drop 1).take 1).length = 1 by simp [List.length_take] at hl6 ⊢; omega] at hS
      have hF9 : supF (b.take 60) ≤ 9223372036854775807 := by unfold supF; omega
      have hD9 : supD (b.take 60) ≤ 9223372036854775807 := by unfold supD; omega
      have hS9 : supS (b.take 60) ≤ 9223372036854775807 := by unfold supS; omega
      rw [hop] at hopn
      have hput : ∀ {w R L}, Holds w R L → R.blk pt = some (.cells (rowC 256) tabT (0, 0)) → Calls Try.prog 123 #[.pointer (some ⟨pt, 0, none⟩), supV (supF (b.take 60)) (supD (b.take 60)) (supS (b.take 60))] w fun e w' => ∃ o, e = .returned o ∧ Holds w' R (star (rowB o (supPut (supF (b.take 60)) (supD (b.take 60)) (supS (b.take 60)))) L) := fun H hT => supPut_spec H hT hF9 hD9 hS9
      have heF : (valB (((b.take 60).drop 2).take 4) : Int) = supF (b.take 60) := rfl
      have heD : (valB (((b.take 60).drop 6).take 4) : Int) = supD (b.take 60) := rfl
      have heS : (valB (((b.take 60).drop 1).take 1) : Int) = supS (b.take 60) := rfl
      have hsays : supSays b = (!supEq (supF (b.take 60)) (supD (b.take 60)) (supS (b.take 60)) 0 0 0 && decide (supPut (supF (b.take 60)) (supD (b.take 60)) (supS (b.take 60)) = b)) := rfl
      clear hop hF hD hS hF9 hD9 hS9 ho
      generalize supF (b.take 60) = f at *
      generalize supD (b.take 60) = d at *
      generalize supS (b.take 60) = s at *
      have HE := Hid.mk' (And.intro heF (And.intro heD heS))
      have H6 := Hid.mk' hl6
      have main : ∀ z : Bool, supEq f d s 0 0 0 = z → ∀ m : Bool, (z = false → decide (supPut f d s = b) = m) → Calls Try.prog 127 #[.pointer (some ⟨pt, 0, none⟩), .slice a b.length c] w fun e w' => e = .returned (supRet (supAns (!z && m) f d s)) ∧ Holds w' R L := by
        intro z hz m hm
        clear hsays heF heD heS hl6
        have hcase : (z = true) ∨ (z = false ∧ m = true) ∨ (z = false ∧ m = false) := by cases z <;> cases m <;> simp
        rcases hcase with rfl | ⟨rfl, rfl⟩ | ⟨rfl, rfl⟩
        · have HM := Hid.mk' hm
          clear hm
          go_enter Try.func127, Try.ntmps127
          go_wp2_with fail
          generalize (World.alloc ..) = w0 at H0 ⊢
          generalize w.heap.size = g0 at H0 ⊢
          refine (hclr H0 hr0).mono ?_
          rintro e w1 ⟨rfl, H1⟩
          clear H0 hclr
          go_wp2_with fail
          refine (hopn H1 hT hr0).mono ?_
          rintro e w2 ⟨o2, rfl, H2⟩
          clear H1 hopn
          obtain ⟨R3, le3, H3, hr3⟩ := H2.freezeRow
          clear H2
          have hT3 := le3.blk _ _ hT
          have hb3 := Rd.le hr0 le3
          go_wp2_with fail
          refine (read_spec H3 hr3).mono ?_
          rintro e w4 ⟨p4, rfl, H4⟩
          clear H3
          go_wp2_with fail
          refine (rnum_yes H4 hr3 (by rw [H6.out]; decide)).mono ?_
          rintro e w5 ⟨v5, rfl, H5, hr5⟩
          clear H4 hr3
          rw [show wid 1 = 1 from by decide] at hr5
          go_wp2_with fail
          refine (rnum_yes H5 hr5 (by rw [List.length_drop, H6.out]; decide)).mono ?_
          rintro e w6 ⟨v6, rfl, H7, hr6⟩
          clear H5 hr5
          rw [show wid 1 = 1 from by decide, List.drop_drop] at hr6
          rw [show wid 1 = 1 from by decide, HE.out.2.2]
          go_wp2_with fail
          have H8 := (H7.alloc #[.int .i64 0, .int .i64 0, .int .i64 s] tSuper).swap
          generalize (World.alloc ..) = w7 at H8 ⊢
          generalize w6.heap.size = g7 at H8 ⊢
          clear H7
          refine (rnum_yes H8 hr6 (by rw [List.length_drop, H6.out]; decide)).mono ?_
          rintro e w8 ⟨v8, rfl, H9, hr8⟩
          clear H8 hr6
          rw [show wid 4 = 4 from by decide, List.drop_drop] at hr8
          rw [show wid 4 = 4 from by decide, HE.out.1]
          obtain ⟨l9, n9, c9, z9⟩ := Holds.facts (H9.swap)
          go_wp2_with fail
          have H10 := (H9.swap.set 0 (.int .i64 f)).swap
          clear H9 l9 n9 c9 z9
          generalize (World.setCell ..) = w9 at H10 ⊢
          refine (rnum_yes H10 hr8 (by rw [List.length_drop, H6.out]; decide)).mono ?_
          rintro e w10 ⟨v10, rfl, H11, hr10⟩
          clear H10 hr8
          rw [show wid 4 = 4 from by decide, HE.out.2.1]
          obtain ⟨l11, n11, c11, z11⟩ := Holds.facts (H11.swap)
          obtain ⟨l12, n12, c12, z12⟩ := Holds.facts (H11.pick3)
          obtain ⟨a1, a2⟩ := Holds.apart H11.swap.swap2
          go_wp2_with fail
          have H12 := H11.swap.set 1 (.int .i64 d)
          have H13 := ((H12.pick3.set 0 (.int .i64 0)).set 1 (.int .i64 0)).set 2 (.int .i64 0)
          refine bodyPost_ret (results_cell2 rfl _ _ g0 tSuper _ (0, 0) _ rfl H13.blkAt Try.underlying146 rfl (by kernel_rfl)) rfl ?_
          exact ⟨rfl, H13.drop.drop.drop.weaken le3⟩
        · have HM := Hid.mk' hm
          clear hm
          go_enter Try.func127, Try.ntmps127
          go_wp2_with fail
          generalize (World.alloc ..) = w0 at H0 ⊢
          generalize w.heap.size = g0 at H0 ⊢
          refine (hclr H0 hr0).mono ?_
          rintro e w1 ⟨rfl, H1⟩
          clear H0 hclr
          go_wp2_with fail
          refine (hopn H1 hT hr0).mono ?_
          rintro e w2 ⟨o2, rfl, H2⟩
          clear H1 hopn
          obtain ⟨R3, le3, H3, hr3⟩ := H2.freezeRow
          clear H2
          have hT3 := le3.blk _ _ hT
          have hb3 := Rd.le hr0 le3
          go_wp2_with fail
          refine (read_spec H3 hr3).mono ?_
          rintro e w4 ⟨p4, rfl, H4⟩
          clear H3
          go_wp2_with fail
          refine (rnum_yes H4 hr3 (by rw [H6.out]; decide)).mono ?_
          rintro e w5 ⟨v5, rfl, H5, hr5⟩
          clear H4 hr3
          rw [show wid 1 = 1 from by decide] at hr5
          go_wp2_with fail
          refine (rnum_yes H5 hr5 (by rw [List.length_drop, H6.out]; decide)).mono ?_
          rintro e w6 ⟨v6, rfl, H7, hr6⟩
          clear H5 hr5
          rw [show wid 1 = 1 from by decide, List.drop_drop] at hr6
          rw [show wid 1 = 1 from by decide, HE.out.2.2]
          go_wp2_with fail
          have H8 := (H7.alloc #[.int .i64 0, .int .i64 0, .int .i64 s] tSuper).swap
          generalize (World.alloc ..) = w7 at H8 ⊢
          generalize w6.heap.size = g7 at H8 ⊢
          clear H7
          refine (rnum_yes H8 hr6 (by rw [List.length_drop, H6.out]; decide)).mono ?_
          rintro e w8 ⟨v8, rfl, H9, hr8⟩
          clear H8 hr6
          rw [show wid 4 = 4 from by decide, List.drop_drop] at hr8
          rw [show wid 4 = 4 from by decide, HE.out.1]
          obtain ⟨l9, n9, c9, z9⟩ := Holds.facts (H9.swap)
          go_wp2_with fail
          have H10 := (H9.swap.set 0 (.int .i64 f)).swap
          clear H9 l9 n9 c9 z9
          generalize (World.setCell ..) = w9 at H10 ⊢
          refine (rnum_yes H10 hr8 (by rw [List.length_drop, H6.out]; decide)).mono ?_
          rintro e w10 ⟨v10, rfl, H11, hr10⟩
          clear H10 hr8
          rw [show wid 4 = 4 from by decide, HE.out.2.1]
          obtain ⟨l11, n11, c11, z11⟩ := Holds.facts (H11.swap)
          obtain ⟨l12, n12, c12, z12⟩ := Holds.facts (H11.pick3)
          obtain ⟨a1, a2⟩ := Holds.apart H11.swap.swap2
          go_wp2_with fail
          have H12 := H11.swap.set 1 (.int .i64 d)
          generalize (World.setCell ..) = w12 at H12 ⊢
          clear H11 l11 n11 c11 z11 l12 n12 c12 z12
          refine (hput H12 hT3).mono ?_
          rintro e w13 ⟨o13, rfl, H13⟩
          clear H12
          go_wp2_with fail
          refine (bytesEqual_spec H13.rowRd (hb3.world H13)).mono ?_
          rintro e w14 ⟨rfl, rfl⟩
          rw [HM.out (by trivial)]
          have H14 := H13.drop
          obtain ⟨l14, n14, c14, z14⟩ := Holds.facts (H14)
          obtain ⟨l15, n15, c15, z15⟩ := Holds.facts (H14.pick3)
          go_wp2_with fail
          have H15 := ((H14.pick3.set 0 (.int .i64 f)).set 1 (.int .i64 d)).set 2 (.int .i64 s)
          refine bodyPost_ret (results_cell2 rfl _ _ g0 tSuper _ (0, 0) _ rfl H15.blkAt Try.underlying146 rfl (by kernel_rfl)) rfl ?_
          exact ⟨rfl, H15.drop.drop.drop.weaken le3⟩
        · have HM := Hid.mk' hm
          clear hm
          go_enter Try.func127, Try.ntmps127
          go_wp2_with fail
          generalize (World.alloc ..) = w0 at H0 ⊢
          generalize w.heap.size = g0 at H0 ⊢
          refine (hclr H0 hr0).mono ?_
          rintro e w1 ⟨rfl, H1⟩
          clear H0 hclr
          go_wp2_with fail
          refine (hopn H1 hT hr0).mono ?_
          rintro e w2 ⟨o2, rfl, H2⟩
          clear H1 hopn
          obtain ⟨R3, le3, H3, hr3⟩ := H2.freezeRow
          clear H2
          have hT3 := le3.blk _ _ hT
          have hb3 := Rd.le hr0 le3
          go_wp2_with fail
          refine (read_spec H3 hr3).mono ?_
          rintro e w4 ⟨p4, rfl, H4⟩
          clear H3
          go_wp2_with fail
          refine (rnum_yes H4 hr3 (by rw [H6.out]; decide)).mono ?_
          rintro e w5 ⟨v5, rfl, H5, hr5⟩
          clear H4 hr3
          rw [show wid 1 = 1 from by decide] at hr5
          go_wp2_with fail
          refine (rnum_yes H5 hr5 (by rw [List.length_drop, H6.out]; decide)).mono ?_
          rintro e w6 ⟨v6, rfl, H7, hr6⟩
          clear H5 hr5
          rw [show wid 1 = 1 from by decide, List.drop_drop] at hr6
          rw [show wid 1 = 1 from by decide, HE.out.2.2]
          go_wp2_with fail
          have H8 := (H7.alloc #[.int .i64 0, .int .i64 0, .int .i64 s] tSuper).swap
          generalize (World.alloc ..) = w7 at H8 ⊢
          generalize w6.heap.size = g7 at H8 ⊢
          clear H7
          refine (rnum_yes H8 hr6 (by rw [List.length_drop, H6.out]; decide)).mono ?_
          rintro e w8 ⟨v8, rfl, H9, hr8⟩
          clear H8 hr6
          rw [show wid 4 = 4 from by decide, List.drop_drop] at hr8
          rw [show wid 4 = 4 from by decide, HE.out.1]
          obtain ⟨l9, n9, c9, z9⟩ := Holds.facts (H9.swap)
          go_wp2_with fail
          have H10 := (H9.swap.set 0 (.int .i64 f)).swap
          clear H9 l9 n9 c9 z9
          generalize (World.setCell ..) = w9 at H10 ⊢
          refine (rnum_yes H10 hr8 (by rw [List.length_drop, H6.out]; decide)).mono ?_
          rintro e w10 ⟨v10, rfl, H11, hr10⟩
          clear H10 hr8
          rw [show wid 4 = 4 from by decide, HE.out.2.1]
          obtain ⟨l11, n11, c11, z11⟩ := Holds.facts (H11.swap)
          obtain ⟨l12, n12, c12, z12⟩ := Holds.facts (H11.pick3)
          obtain ⟨a1, a2⟩ := Holds.apart H11.swap.swap2
          go_wp2_with fail
          have H12 := H11.swap.set 1 (.int .i64 d)
          generalize (World.setCell ..) = w12 at H12 ⊢
          clear H11 l11 n11 c11 z11 l12 n12 c12 z12
          refine (hput H12 hT3).mono ?_
          rintro e w13 ⟨o13, rfl, H13⟩
          clear H12
          go_wp2_with fail
          refine (bytesEqual_spec H13.rowRd (hb3.world H13)).mono ?_
          rintro e w14 ⟨rfl, rfl⟩
          rw [HM.out (by trivial)]
          have H14 := H13.drop
          obtain ⟨l14, n14, c14, z14⟩ := Holds.facts (H14)
          obtain ⟨l15, n15, c15, z15⟩ := Holds.facts (H14.pick3)
          go_wp2_with fail
          have H15 := ((H14.pick3.set 0 (.int .i64 0)).set 1 (.int .i64 0)).set 2 (.int .i64 0)
          refine bodyPost_ret (results_cell2 rfl _ _ g0 tSuper _ (0, 0) _ rfl H15.blkAt Try.underlying146 rfl (by kernel_rfl)) rfl ?_
          exact ⟨rfl, H15.drop.drop.drop.weaken le3⟩
      rw [hsays]
      exact main _ rfl _ (fun _ => rfl)
end Sh
