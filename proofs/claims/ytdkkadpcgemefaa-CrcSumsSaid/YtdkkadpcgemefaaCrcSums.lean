/- CrcSums: the walk. -/
import Derived.Test.YtdkkadpcgemefaaCrcLaw
set_option linter.unusedVariables false
set_option linter.unusedSimpArgs false
namespace Sh
open Go Go.RowKit Go.Proofs
attribute [local go_sem ↓] Go.wp_at_zero Go.wp_at_succ
set_option maxHeartbeats 1000000
set_option maxRecDepth 100000

theorem crcSums_walk (W : World) {va vb : Value} {a b : List UInt8} (ha : RdB W.cell? va a) (hb : RdB W.cell? vb b) :
    Calls Try.prog 8 #[va, vb] W fun e w' => e = .returned (.bool true) ∧ Below W.heap.size W w' := by
  have ha0 := ha
  have hb0 := hb
  obtain ⟨aa, ca, rfl⟩ := ha.form
  obtain ⟨ab, cb, rfl⟩ := hb.form
  by_cases h1 : a.length ≤ 200
  · have t1 : (decide ((200 : Int) < a.length)) = false := by simp; omega
    by_cases h2 : b.length ≤ 200
    · have t2 : (decide ((200 : Int) < b.length)) = false := by simp; omega
      go_enter Try.func8, Try.ntmps8
      go_wp2_with (with_reducible refine stop_append ?_)
      refine (new_crc (Holds.start W)).mono ?_
      rintro e w1 ⟨p, rfl, H1⟩
      obtain ⟨R1, le1, H2, hT⟩ := H1.freezeBlk
      clear H1
      go_wp2_with (with_reducible refine stop_append ?_)
      refine Hold.go (wpList_appendB rfl _ _ rfl rfl rfl (freshB H2) ((Rd.le (R := Snap.of W) ha0 le1).world (H2.garbage _)) (by simp only [List.length_nil]; omega) ?_)
      intro v2 w2 H3
      clear H2
      rw [List.nil_append] at H3
      go_wp2_with (with_reducible refine stop_append ?_)
      refine Hold.go (wpList_appendB rfl _ _ rfl rfl rfl H3 ((Rd.le (R := Snap.of W) hb0 le1).world H3) (by omega) ?_)
      intro v3 w3 H4
      clear H3
      obtain ⟨R2, le2, H5, hall⟩ := H4.freezeRow
      have hT2 := le2.blk _ _ hT
      have ha2 := Rd.le (R := Snap.of W) ha0 (le1.trans le2)
      have hb2 := Rd.le (R := Snap.of W) hb0 (le1.trans le2)
      clear H4
      have hal : (a ++ b).length ≤ 1000000 := by rw [List.length_append]; omega
      have hsl : (sealB (a ++ b)).length ≤ 1000000 := by rw [sealB, List.length_append, List.length_append, fourB_length]; omega
      go_wp2_with fail
      have H6 := H5.garbage (.cells #[.slice aa a.length ca, .slice ab b.length cb] tBytes)
      refine (sum_crc (parts := [(.slice aa a.length ca, a), (.slice ab b.length cb, b)]) (H6.frz hT2) (two_parts H5) (by
        intro q hq
        rcases List.mem_cons.1 hq with rfl | hq
        · exact ha2.world H6
        · rw [List.mem_singleton.1 hq]; exact hb2.world H6)).mono ?_
      rintro e w4 ⟨rfl, rfl⟩
      rw [show List.flatMap (fun x : Value × List UInt8 => x.2) [(.slice aa a.length ca, a), (.slice ab b.length cb, b)] = a ++ b from by simp]
      generalize (World.alloc ..) = w4 at H6 ⊢
      clear H5
      generalize a ++ b = l at *
      go_wp2_with fail
      refine (rsum_spec (hall.world H6)).mono ?_
      rintro e w5 ⟨rfl, rfl⟩
      go_wp2_with fail
      refine (seal_crc H6 hT2 hall hal).mono ?_
      rintro e w5 ⟨o5, rfl, H7⟩
      clear H6
      go_wp2_with fail
      refine (rseal_spec H7 hall hal).mono ?_
      rintro e w6 ⟨o6, rfl, H8⟩
      clear H7
      go_wp2_with fail
      refine (same_spec H8.swap.rowRd H8.rowRd hsl hsl).mono ?_
      rintro e w7 ⟨rfl, q, rfl⟩
      rw [show decide (sealB l = sealB l) = true from by simp]
      have H9 := H8.drop.drop.drewN q
      clear H8
      generalize (World.drewN ..) = w7 at H9 ⊢
      go_wp2_with fail
      refine (good_crc H9 hT2 hall hal).mono ?_
      rintro e w8 ⟨rfl, H10⟩
      clear H9
      go_wp2_with fail
      refine (rgood_spec H10 hall hal).mono ?_
      rintro e w9 ⟨rfl, H11⟩
      clear H10
      generalize goodB l = d
      go_wp2_with fail
      refine (rseal_spec H11 hall hal).mono ?_
      rintro e w10 ⟨o10, rfl, H12⟩
      clear H11
      obtain ⟨R3, le3, H13, hs3⟩ := H12.freezeRow
      clear H12
      go_wp2_with fail
      refine (good_crc H13 (le3.blk _ _ hT2) hs3 hsl).mono ?_
      rintro e w11 ⟨rfl, H14⟩
      rw [goodB_seal]
      clear H13
      go_wp2_with fail
      refine (sum_nil _ _).mono ?_
      rintro e w12 ⟨rfl, rfl⟩
      have H15 := H14.garbage (.cells #[.slice aa a.length ca] tBytes)
      generalize (World.alloc ..) = w12 at H15 ⊢
      clear H14
      have ha3 := Rd.le ha2 le3
      have hall3 := Rd.le hall le3
      go_wp2_with fail
      refine (good_nil _ _ (hall3.world H15)).mono ?_
      rintro e w13 ⟨rfl, rfl⟩
      go_wp2_with fail
      refine (seal_nil H15 ha3 (by omega)).mono ?_
      rintro e w13 ⟨o13, rfl, H16⟩
      clear H15
      go_wp2_with fail
      refine (same_spec H16.rowRd (ha3.world H16) (by omega) (by omega)).mono ?_
      rintro e w14 ⟨rfl, q2, rfl⟩
      rw [show decide (a = a) = true from by simp]
      have H17 := H16.drop.drewN q2
      clear H16
      generalize (World.drewN ..) = w15 at H17 ⊢
      go_wp2_with fail
      refine (alive05 H17).mono ?_
      rintro e w16 ⟨rfl, H18⟩
      go_wp2_with fail
      go_ret
      exact ⟨rfl, H18.toBelow (le1.trans (le2.trans le3))⟩
    · have t2 : (decide ((200 : Int) < b.length)) = true := by simp; omega
      go_enter Try.func8, Try.ntmps8
      go_wp2_with fail
      refine (alive05 (Holds.start W)).mono ?_
      rintro e w2 ⟨rfl, H1⟩
      go_wp2_with fail
      go_ret
      exact ⟨rfl, H1.toBelow (Snap.le.refl _)⟩
  · have t1 : (decide ((200 : Int) < a.length)) = true := by simp; omega
    go_enter Try.func8, Try.ntmps8
    go_wp2_with fail
    refine (alive05 (Holds.start W)).mono ?_
    rintro e w2 ⟨rfl, H1⟩
    go_wp2_with fail
    go_ret
    exact ⟨rfl, H1.toBelow (Snap.le.refl _)⟩
end Sh
