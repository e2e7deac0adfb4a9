/- sherdref20.Right, Count, Far; Same of both. -/
import Derived.Test.YtmogagcffebbaaaRec
import Derived.Test.YtmogagcffebbaaaBagMem
set_option linter.unusedVariables false
set_option linter.unusedSimpArgs false
namespace Sh
open Go Go.RowKit Go.Proofs
attribute [local go_sem ↓] Go.wp_at_zero Go.wp_at_succ
set_option maxHeartbeats 1000000
set_option maxRecDepth 100000

theorem rrecRight_spec {w : World} {R : Snap} {L : Asrt} (r : Rc) (H : Holds w R L) (hr : r.Rd R.cell?) (hz : r.Sz) :
    Calls Try.prog 75 #[.agg r.cells.toArray] w fun e w' => e = .returned (.bool (rcOk r)) ∧ Holds w' R L := by
  obtain ⟨x, hx⟩ : ∃ x, x = rcOk r := ⟨_, rfl⟩
  rw [← hx]
  obtain ⟨kind, name, attempt, epoch, mark, size, vs, share⟩ := r
  obtain ⟨z1, z2⟩ := hz
  have hs := hr
  simp only [Rc.Rd] at z1 z2 hs
  obtain ⟨as_, cs_, rfl⟩ := hs.form
  have HX := Hid.mk' hx
  have hR := rright_spec z1
  obtain ⟨n, hn⟩ : ∃ n, n = share.length := ⟨_, rfl⟩
  have HN := Hid.mk' hn
  obtain ⟨R1, le1, H1, hb⟩ := H.allocR (.cells #[.int .i64 kind, .string name, .int .i64 attempt, .int .i64 epoch, .int .i64 mark, .int .i64 size, .slice as_ share.length cs_] tRec (0, 0))
  obtain ⟨R2, le2, H2, hb2⟩ := H1.allocR (.cells #[.int .i64 attempt, .int .i64 epoch, .int .i64 mark] tInt (0, 0))
  replace hb := le2.blk _ _ hb
  simp only [← hn] at hb H1 H2 hb2
  show Calls _ _ #[.agg #[.int .i64 kind, .string name, .int .i64 attempt, .int .i64 epoch, .int .i64 mark, .int .i64 size, .slice as_ share.length cs_]] _ _
  simp only [← hn]
  have z3 : n ≤ 1000000 := by omega
  have le3 := le1.trans le2
  simp only [World.size_alloc] at hb2
  clear hs hx H hn hr le1 le2 H1 z1 z2
  go_enter Try.func75, Try.ntmps75
  go_wp2_with fail
  generalize (World.alloc ..) = w2 at H2 ⊢
  generalize (w.heap.size + 1) = g2 at hb2 ⊢
  generalize w.heap.size = g1 at hb ⊢
  obtain ⟨v, hv⟩ : ∃ v : Nat → Int, v = fun k => [attempt, epoch, mark].getD k 0 := ⟨_, rfl⟩
  have HV := Hid.mk' hv
  clear hv
  go_loopw [4] (fun i wx => ∃ j : Nat, i = .int .i64 j ∧ j ≤ 3 ∧ Hid (∀ k, k < j → inOne 4294967295 (v k) = true) ∧ Holds wx R2 L) (fun i _ => 3 - (intOf i).toNat)
  case atStart => exact ⟨0, rfl, Nat.zero_le _, Hid.mk' (fun k h => absurd h (Nat.not_lt_zero k)), H2⟩
  case round =>
    clear H2
    obtain ⟨j, rfl, hj, hA, H3⟩ := hrel
    by_cases hlt : j < 3
    · have d1 : decide ((j : Int) < 3) = true := by simp; omega
      obtain ⟨y, hy⟩ : ∃ y, y = v j := ⟨_, rfl⟩
      have HY := Hid.mk' hy
      have hc : wr.cell? ⟨g2, j, none⟩ = some (.int .i64 y) := by
        rw [H3.frz hb2 j, hy, HV.out]
        rcases (show j = 0 ∨ j = 1 ∨ j = 2 by omega) with rfl | rfl | rfl <;> rfl
      obtain ⟨l2, n2, c2⟩ := Holds.frzFacts (H3) hb2
      clear hy c2
      have i1 : (0 : Int) ≤ (j : Int) := by omega
      have i2 : (j : Int) < 3 := by omega
      have bad : inOne 4294967295 y = false → x = false := fun h => by
        rw [HX.out]
        have h2 := HY.out
        rw [HV.out] at h2
        have e : inAll 4294967295 [attempt, epoch, mark] = false := by
          rcases (show j = 0 ∨ j = 1 ∨ j = 2 by omega) with rfl | rfl | rfl
          · have h3 : y = attempt := h2
            rw [h3] at h; simp [inAll, h]
          · have h3 : y = epoch := h2
            rw [h3] at h; simp [inAll, h]
          · have h3 : y = mark := h2
            rw [h3] at h; simp [inAll, h]
        simp [rcOk, e]
      have BAD := Hid.mk' bad
      clear bad
      by_cases y0 : y < 0
      · have t0 : decide (y < 0) = true := by simpa using y0
        go_wp2_with fail
        go_ret
        exact ⟨ret_bool (BAD.out (by simp [inOne]; omega)).symm, H3.weaken le3⟩
      · have t0 : decide (y < 0) = false := by simpa using y0
        by_cases y1 : 4294967295 < y
        · have t1 : decide (4294967295 < y) = true := by simpa using y1
          go_wp2_with fail
          go_ret
          exact ⟨ret_bool (BAD.out (by simp [inOne]; omega)).symm, H3.weaken le3⟩
        · have t1 : decide (4294967295 < y) = false := by simpa using y1
          go_wp2_with fail
          go_roundw
          case rel =>
            refine ⟨j + 1, by go_num, hlt, Hid.mk' (fun k h2 => ?_), H3⟩
            rcases Nat.lt_or_ge k j with h3 | h3
            · exact hA.out k h3
            · obtain rfl : k = j := by omega
              rw [← HY.out]; simp [inOne]; omega
          case measure => simp [intOf]; omega
    · have d1 : decide ((j : Int) < 3) = false := by simp; omega
      obtain rfl : j = 3 := by omega
      have K2 : Hid (inOne 4294967295 attempt = true) := Hid.mk' (by have := hA.out 0 (by omega); rw [HV.out] at this; exact this)
      have K3 : Hid (inOne 4294967295 epoch = true) := Hid.mk' (by have := hA.out 1 (by omega); rw [HV.out] at this; exact this)
      have K4 : Hid (inOne 4294967295 mark = true) := Hid.mk' (by have := hA.out 2 (by omega); rw [HV.out] at this; exact this)
      clear hA HV hlt hj
      obtain ⟨l1, n1, c1⟩ := Holds.frzFacts (H3) hb
      have H4 := H3.weaken le3
      clear H3
      go_wp2_with fail
      refine (hR _).mono ?_
      rintro e w1 ⟨rfl, rfl⟩
      clear hR
      cases h1 : nameOk name with
      | false =>
        go_wp2_with fail
        go_ret
        exact ⟨ret_bool (HX.out.trans (by simp [rcOk, h1])).symm, H4⟩
      | true =>
      have K1 := Hid.mk' h1
      clear h1
      by_cases h1 : size < 0
      · have t1 : decide (size < 0) = true := by simpa using h1
        go_wp2_with fail
        go_ret
        exact ⟨ret_bool (HX.out.trans (by simp [rcOk, inAll, inOne]; omega)).symm, H4⟩
      have t1 : decide (size < 0) = false := by simpa using h1
      by_cases h2 : 240 < size
      · have t2 : decide (240 < size) = true := by simpa using h2
        go_wp2_with fail
        go_ret
        exact ⟨ret_bool (HX.out.trans (by simp [rcOk, inAll, inOne]; omega)).symm, H4⟩
      have t2 : decide (240 < size) = false := by simpa using h2
      by_cases h3 : 240 < n
      · have t3 : decide ((240 : Int) < (n : Int)) = true := by simp; omega
        go_wp2_with fail
        go_ret
        exact ⟨ret_bool (HX.out.trans (by have := HN.out; simp [rcOk, inAll, inOne]; omega)).symm, H4⟩
      have t3 : decide ((240 : Int) < (n : Int)) = false := by simp; omega
      go_upto_region 9 with fail
      have b1 : 0 ≤ attempt ∧ attempt ≤ 4294967295 := by have := K2.out; simpa [inOne] using this
      have b2 : 0 ≤ epoch ∧ epoch ≤ 4294967295 := by have := K3.out; simpa [inOne] using this
      have b3 : 0 ≤ mark ∧ mark ≤ 4294967295 := by have := K4.out; simpa [inOne] using this
      obtain ⟨b1, b1'⟩ := b1
      obtain ⟨b2, b2'⟩ := b2
      obtain ⟨b3, b3'⟩ := b3
      have hxx : x = rcKind (⟨kind, name, attempt, epoch, mark, size, .slice as_ share.length cs_, share⟩ : Rc) := by
        rw [HX.out, rcOk]
        have e1 : inAll 4294967295 [attempt, epoch, mark] = true := by simp [inAll, K2.out, K3.out, K4.out]
        have e2 : inAll 240 [size, (share.length : Int)] = true := by have := HN.out; simp [inAll, inOne]; omega
        simp only [K1.out, e1, e2, Bool.true_and]
      replace HX := Hid.mk' hxx
      clear hxx
      clear t1 t2 t3
      go_cut [5] (fun c wx => c = .bool (rcAll (⟨kind, name, attempt, epoch, mark, size, .slice as_ share.length cs_, share⟩ : Rc)) ∧ wx = wr)
      case first =>
        by_cases a1 : 0 < attempt
        · have t1 : decide (0 < attempt) = true := by simpa using a1
          have A1 := Hid.mk' a1
          clear a1
          by_cases a2 : 0 < epoch
          · have t2 : decide (0 < epoch) = true := by simpa using a2
            have A2 := Hid.mk' a2
            clear a2
            by_cases a3 : 0 < mark
            · have t3 : decide (0 < mark) = true := by simpa using a3
              have A3 := Hid.mk' a3
              clear a3
              go_wp2_with fail
              go_meet
              case rel => exact ⟨congrArg Value.bool (by (try have h1 := A1.out); (try have h2 := A2.out); (try have h3 := A3.out); simp only [rcAll]; simp <;> omega), rfl⟩
            · have t3 : decide (0 < mark) = false := by simpa using a3
              have A3 := Hid.mk' a3
              clear a3
              go_wp2_with fail
              go_meet
              case rel => exact ⟨congrArg Value.bool (by (try have h1 := A1.out); (try have h2 := A2.out); (try have h3 := A3.out); simp only [rcAll]; simp <;> omega), rfl⟩
          · have t2 : decide (0 < epoch) = false := by simpa using a2
            have A2 := Hid.mk' a2
            clear a2
            go_wp2_with fail
            go_meet
            case rel => exact ⟨congrArg Value.bool (by (try have h1 := A1.out); (try have h2 := A2.out); (try have h3 := A3.out); simp only [rcAll]; simp <;> omega), rfl⟩
        · have t1 : decide (0 < attempt) = false := by simpa using a1
          have A1 := Hid.mk' a1
          clear a1
          go_wp2_with fail
          go_meet
          case rel => exact ⟨congrArg Value.bool (by (try have h1 := A1.out); (try have h2 := A2.out); (try have h3 := A3.out); simp only [rcAll]; simp <;> omega), rfl⟩
      obtain ⟨rfl, rfl⟩ := hcut
      obtain ⟨al, hal⟩ : ∃ al, al = rcAll (⟨kind, name, attempt, epoch, mark, size, .slice as_ share.length cs_, share⟩ : Rc) := ⟨_, rfl⟩
      rw [← hal]
      have HAL := Hid.mk' hal
      clear hal
      by_cases k1 : kind = 1
      · subst k1
        by_cases a1 : 0 < attempt
        · have t1 : decide (0 < attempt) = true := by simpa using a1
          have A1 := Hid.mk' a1
          clear a1
          by_cases a2 : epoch = attempt
          · subst a2
            by_cases a3 : mark = 0
            · subst a3
              go_wp2_with fail
              go_ret
              exact ⟨ret_bool (HX.out.trans (by (have hnn := HN.out); (try have h1 := A1.out); (try have h2 := A2.out); (try have h3 := A3.out); (try have h4 := A4.out); (try have h5 := A5.out); (try have h6 := HAL.out); simp only [rcKind, rcAll]; simp [-List.length_eq_zero_iff] <;> omega)).symm, H4⟩
            · have t3 : (mark == 0) = false := by simpa using a3
              have A3 := Hid.mk' a3
              clear a3
              go_wp2_with fail
              go_ret
              exact ⟨ret_bool (HX.out.trans (by (have hnn := HN.out); (try have h1 := A1.out); (try have h2 := A2.out); (try have h3 := A3.out); (try have h4 := A4.out); (try have h5 := A5.out); (try have h6 := HAL.out); simp only [rcKind, rcAll]; simp [-List.length_eq_zero_iff] <;> omega)).symm, H4⟩
          · have t2 : (epoch == attempt) = false := by simpa using a2
            have A2 := Hid.mk' a2
            clear a2
            go_wp2_with fail
            go_ret
            exact ⟨ret_bool (HX.out.trans (by (have hnn := HN.out); (try have h1 := A1.out); (try have h2 := A2.out); (try have h3 := A3.out); (try have h4 := A4.out); (try have h5 := A5.out); (try have h6 := HAL.out); simp only [rcKind, rcAll]; simp [-List.length_eq_zero_iff] <;> omega)).symm, H4⟩
        · have t1 : decide (0 < attempt) = false := by simpa using a1
          have A1 := Hid.mk' a1
          clear a1
          go_wp2_with fail
          go_ret
          exact ⟨ret_bool (HX.out.trans (by (have hnn := HN.out); (try have h1 := A1.out); (try have h2 := A2.out); (try have h3 := A3.out); (try have h4 := A4.out); (try have h5 := A5.out); (try have h6 := HAL.out); simp only [rcKind, rcAll]; simp [-List.length_eq_zero_iff] <;> omega)).symm, H4⟩
      have q1 : (kind == 1) = false := by simpa using k1
      by_cases k2 : kind = 2
      · subst k2
        clear k1 q1
        go_wp2_with fail
        go_ret
        exact ⟨ret_bool (HX.out.trans (by rw [HAL.out]; rfl)).symm, H4⟩
      have q2 : (kind == 2) = false := by simpa using k2
      by_cases k5 : kind = 5
      · subst k5
        clear k1 q1 k2 q2
        go_wp2_with fail
        go_ret
        exact ⟨ret_bool (HX.out.trans (by rw [HAL.out]; rfl)).symm, H4⟩
      have q5 : (kind == 5) = false := by simpa using k5
      by_cases k3 : kind = 3
      · subst k3
        clear k1 q1 k2 q2 k5 q5
        have h3 : x = (al && decide (share.length = 0)) := by rw [HX.out, HAL.out]; rfl
        replace HX := Hid.mk' h3
        clear h3
        cases al with
        | false =>
          go_wp2_with fail
          go_ret
          exact ⟨ret_bool (HX.out.trans rfl).symm, H4⟩
        | true =>
          by_cases hn0 : n = 0
          · have t0 : ((n : Int) == 0) = true := by rw [beq_iff_eq]; omega
            have A1 := Hid.mk' hn0
            clear hn0
            go_wp2_with fail
            go_ret
            exact ⟨ret_bool (HX.out.trans (by rw [← HN.out, A1.out]; rfl)).symm, H4⟩
          · have t0 : ((n : Int) == 0) = false := by rw [beq_eq_false_iff_ne]; omega
            have A1 := Hid.mk' hn0
            clear hn0
            go_wp2_with fail
            go_ret
            exact ⟨ret_bool (HX.out.trans (by rw [← HN.out, decide_eq_false A1.out]; rfl)).symm, H4⟩
      have q3 : (kind == 3) = false := by simpa using k3
      by_cases k4 : kind = 4
      · subst k4
        clear k1 q1 k2 q2 k5 q5 k3 q3
        clear HAL
        by_cases a1 : attempt = 0
        · subst a1
          by_cases a2 : epoch = 0
          · subst a2
            by_cases a3 : 0 < mark
            · have t3 : decide (0 < mark) = true := by simpa using a3
              have A3 := Hid.mk' a3
              clear a3
              by_cases a4 : size = 0
              · subst a4
                by_cases hn0 : n = 0
                · have t0 : ((n : Int) == 0) = true := by rw [beq_iff_eq]; omega
                  have A1 := Hid.mk' hn0
                  clear hn0
                  go_wp2_with fail
                  go_ret
                  exact ⟨ret_bool (HX.out.trans (by (have hnn := HN.out); (try have h1 := A1.out); (try have h2 := A2.out); (try have h3 := A3.out); (try have h4 := A4.out); (try have h5 := A5.out); (try have h6 := HAL.out); simp only [rcKind, rcAll]; simp [-List.length_eq_zero_iff] <;> omega)).symm, H4⟩
                · have t0 : ((n : Int) == 0) = false := by rw [beq_eq_false_iff_ne]; omega
                  have A1 := Hid.mk' hn0
                  clear hn0
                  go_wp2_with fail
                  go_ret
                  exact ⟨ret_bool (HX.out.trans (by (have hnn := HN.out); (try have h1 := A1.out); (try have h2 := A2.out); (try have h3 := A3.out); (try have h4 := A4.out); (try have h5 := A5.out); (try have h6 := HAL.out); simp only [rcKind, rcAll]; simp [-List.length_eq_zero_iff] <;> omega)).symm, H4⟩
              · have t4 : (size == 0) = false := by simpa using a4
                have A4 := Hid.mk' a4
                clear a4
                go_wp2_with fail
                go_ret
                exact ⟨ret_bool (HX.out.trans (by (have hnn := HN.out); (try have h1 := A1.out); (try have h2 := A2.out); (try have h3 := A3.out); (try have h4 := A4.out); (try have h5 := A5.out); (try have h6 := HAL.out); simp only [rcKind, rcAll]; simp [-List.length_eq_zero_iff] <;> omega)).symm, H4⟩
            · have t3 : decide (0 < mark) = false := by simpa using a3
              have A3 := Hid.mk' a3
              clear a3
              go_wp2_with fail
              go_ret
              exact ⟨ret_bool (HX.out.trans (by (have hnn := HN.out); (try have h1 := A1.out); (try have h2 := A2.out); (try have h3 := A3.out); (try have h4 := A4.out); (try have h5 := A5.out); (try have h6 := HAL.out); simp only [rcKind, rcAll]; simp [-List.length_eq_zero_iff] <;> omega)).symm, H4⟩
          · have t2 : (epoch == 0) = false := by simpa using a2
            have A2 := Hid.mk' a2
            clear a2
            go_wp2_with fail
            go_ret
            exact ⟨ret_bool (HX.out.trans (by (have hnn := HN.out); (try have h1 := A1.out); (try have h2 := A2.out); (try have h3 := A3.out); (try have h4 := A4.out); (try have h5 := A5.out); (try have h6 := HAL.out); simp only [rcKind, rcAll]; simp [-List.length_eq_zero_iff] <;> omega)).symm, H4⟩
        · have t1 : (attempt == 0) = false := by simpa using a1
          have A1 := Hid.mk' a1
          clear a1
          go_wp2_with fail
          go_ret
          exact ⟨ret_bool (HX.out.trans (by (have hnn := HN.out); (try have h1 := A1.out); (try have h2 := A2.out); (try have h3 := A3.out); (try have h4 := A4.out); (try have h5 := A5.out); (try have h6 := HAL.out); simp only [rcKind, rcAll]; simp [-List.length_eq_zero_iff] <;> omega)).symm, H4⟩
      have q4 : (kind == 4) = false := by simpa using k4
      have A1 := Hid.mk' (show ¬ kind = 1 ∧ ¬ kind = 2 ∧ ¬ kind = 3 ∧ ¬ kind = 4 ∧ ¬ kind = 5 from ⟨k1, k2, k3, k4, k5⟩)
      clear k1 k2 k3 k4 k5
      go_wp2_with fail
      go_ret
      obtain ⟨k1, k2, k3, k4, k5⟩ := A1.out
      exact ⟨ret_bool (HX.out.trans (by simp [rcKind, k1, k2, k3, k4, k5])).symm, H4⟩
end Sh
