/- RecRef RecLaw RecAlive RecApartLaw RecRAre: joined texts, each with its own sentence below. -/
import Derived.Test.YtmogagcffebbaaaRg8
import Derived.Test.YtmogagcffebbaaaRg4
import Derived.Test.YtmogagcffebbaaaRg11
import Derived.Test.YtmogagcffebbaaaRg10
import Derived.BigQuiet
/- sherdref20.Right, Count, Far; Same of both. -/
set_option linter.unusedVariables false
set_option linter.unusedSimpArgs false
namespace Sh
open Go Go.RowKit Go.Proofs
attribute [local go_sem ↓] Go.wp_at_zero Go.wp_at_succ
set_option maxHeartbeats 1000000
set_option maxRecDepth 100000

theorem rrecRight_spec {w : World} {R : Snap} {L : Asrt} (r : Rc) (H : Holds w R L) (hr : r.Rd R.cell?) (hz : r.Sz) :
    Calls Try.prog 75 #[.agg r.cells.toArray] w fun e w' => e = .returned (.bool (rcOk r)) ∧ Holds w' R L := by
  obtain ⟨x, hx⟩ : ∃ x, x = rcOk r := ⟨_, rfl⟩
  rw [← hx]
  obtain ⟨kind, name, attempt, epoch, mark, size, vs, share⟩ := r
  obtain ⟨z1, z2⟩ := hz
  have hs := hr
  simp only [Rc.Rd] at z1 z2 hs
  obtain ⟨as_, cs_, rfl⟩ := hs.form
  have HX := Hid.mk' hx
  have hR := rright_spec z1
  obtain ⟨n, hn⟩ : ∃ n, n = share.length := ⟨_, rfl⟩
  have HN := Hid.mk' hn
  obtain ⟨R1, le1, H1, hb⟩ := H.allocR (.cells #[.int .i64 kind, .string name, .int .i64 attempt, .int .i64 epoch, .int .i64 mark, .int .i64 size, .slice as_ share.length cs_] tRec (0, 0))
  obtain ⟨R2, le2, H2, hb2⟩ := H1.allocR (.cells #[.int .i64 attempt, .int .i64 epoch, .int .i64 mark] tInt (0, 0))
  replace hb := le2.blk _ _ hb
  simp only [← hn] at hb H1 H2 hb2
  show Calls _ _ #[.agg #[.int .i64 kind, .string name, .int .i64 attempt, .int .i64 epoch, .int .i64 mark, .int .i64 size, .slice as_ share.length cs_]] _ _
  simp only [← hn]
  have z3 : n ≤ 1000000 := by omega
  have le3 := le1.trans le2
  simp only [World.size_alloc] at hb2
  clear hs hx H hn hr le1 le2 H1 z1 z2
  go_enter Try.func75, Try.ntmps75
  go_wp2_with fail
  generalize (World.alloc ..) = w2 at H2 ⊢
  generalize (w.heap.size + 1) = g2 at hb2 ⊢
  generalize w.heap.size = g1 at hb ⊢
  obtain ⟨v, hv⟩ : ∃ v : Nat → Int, v = fun k => [attempt, epoch, mark].getD k 0 := ⟨_, rfl⟩
  have HV := Hid.mk' hv
  clear hv
  go_loopw [4] (fun i wx => ∃ j : Nat, i = .int .i64 j ∧ j ≤ 3 ∧ Hid (∀ k, k < j → inOne 4294967295 (v k) = true) ∧ Holds wx R2 L) (fun i _ => 3 - (intOf i).toNat)
  case atStart => exact ⟨0, rfl, Nat.zero_le _, Hid.mk' (fun k h => absurd h (Nat.not_lt_zero k)), H2⟩
  case round =>
    clear H2
    obtain ⟨j, rfl, hj, hA, H3⟩ := hrel
    by_cases hlt : j < 3
    · have d1 : decide ((j : Int) < 3) = true := by simp; omega
      obtain ⟨y, hy⟩ : ∃ y, y = v j := ⟨_, rfl⟩
      have HY := Hid.mk' hy
      have hc : wr.cell? ⟨g2, j, none⟩ = some (.int .i64 y) := by
        rw [H3.frz hb2 j, hy, HV.out]
        rcases (show j = 0 ∨ j = 1 ∨ j = 2 by omega) with rfl | rfl | rfl <;> rfl
      obtain ⟨l2, n2, c2⟩ := Holds.frzFacts (H3) hb2
      clear hy c2
      have i1 : (0 : Int) ≤ (j : Int) := by omega
      have i2 : (j : Int) < 3 := by omega
      have bad : inOne 4294967295 y = false → x = false := fun h => by
        rw [HX.out]
        have h2 := HY.out
        rw [HV.out] at h2
        have e : inAll 4294967295 [attempt, epoch, mark] = false := by
          rcases (show j = 0 ∨ j = 1 ∨ j = 2 by omega) with rfl | rfl | rfl
          · have h3 : y = attempt := h2
            rw [h3] at h; simp [inAll, h]
          · have h3 : y = epoch := h2
            rw [h3] at h; simp [inAll, h]
          · have h3 : y = mark := h2
            rw [h3] at h; simp [inAll, h]
        simp [rcOk, e]
      have BAD := Hid.mk' bad
      clear bad
      by_cases y0 : y < 0
      · have t0 : decide (y < 0) = true := by simpa using y0
        go_wp2_with fail
        go_ret
        exact ⟨ret_bool (BAD.out (by simp [inOne]; omega)).symm, H3.weaken le3⟩
      · have t0 : decide (y < 0) = false := by simpa using y0
        by_cases y1 : 4294967295 < y
        · have t1 : decide (4294967295 < y) = true := by simpa using y1
          go_wp2_with fail
          go_ret
          exact ⟨ret_bool (BAD.out (by simp [inOne]; omega)).symm, H3.weaken le3⟩
        · have t1 : decide (4294967295 < y) = false := by simpa using y1
          go_wp2_with fail
          go_roundw
          case rel =>
            refine ⟨j + 1, by go_num, hlt, Hid.mk' (fun k h2 => ?_), H3⟩
            rcases Nat.lt_or_ge k j with h3 | h3
            · exact hA.out k h3
            · obtain rfl : k = j := by omega
              rw [← HY.out]; simp [inOne]; omega
          case measure => simp [intOf]; omega
    · have d1 : decide ((j : Int) < 3) = false := by simp; omega
      obtain rfl : j = 3 := by omega
      have K2 : Hid (inOne 4294967295 attempt = true) := Hid.mk' (by have := hA.out 0 (by omega); rw [HV.out] at this; exact this)
      have K3 : Hid (inOne 4294967295 epoch = true) := Hid.mk' (by have := hA.out 1 (by omega); rw [HV.out] at this; exact this)
      have K4 : Hid (inOne 4294967295 mark = true) := Hid.mk' (by have := hA.out 2 (by omega); rw [HV.out] at this; exact this)
      clear hA HV hlt hj
      obtain ⟨l1, n1, c1⟩ := Holds.frzFacts (H3) hb
      have H4 := H3.weaken le3
      clear H3
      go_wp2_with fail
      refine (hR _).mono ?_
      rintro e w1 ⟨rfl, rfl⟩
      clear hR
      cases h1 : nameOk name with
      | false =>
        go_wp2_with fail
        go_ret
        exact ⟨ret_bool (HX.out.trans (by simp [rcOk, h1])).symm, H4⟩
      | true =>
      have K1 := Hid.mk' h1
      clear h1
      by_cases h1 : size < 0
      · have t1 : decide (size < 0) = true := by simpa using h1
        go_wp2_with fail
        go_ret
        exact ⟨ret_bool (HX.out.trans (by simp [rcOk, inAll, inOne]; omega)).symm, H4⟩
      have t1 : decide (size < 0) = false := by simpa using h1
      by_cases h2 : 240 < size
      · have t2 : decide (240 < size) = true := by simpa using h2
        go_wp2_with fail
        go_ret
        exact ⟨ret_bool (HX.out.trans (by simp [rcOk, inAll, inOne]; omega)).symm, H4⟩
      have t2 : decide (240 < size) = false := by simpa using h2
      by_cases h3 : 240 < n
      · have t3 : decide ((240 : Int) < (n : Int)) = true := by simp; omega
        go_wp2_with fail
        go_ret
        exact ⟨ret_bool (HX.out.trans (by have := HN.out; simp [rcOk, inAll, inOne]; omega)).symm, H4⟩
      have t3 : decide ((240 : Int) < (n : Int)) = false := by simp; omega
      go_upto_region 9 with fail
      have b1 : 0 ≤ attempt ∧ attempt ≤ 4294967295 := by have := K2.out; simpa [inOne] using this
      have b2 : 0 ≤ epoch ∧ epoch ≤ 4294967295 := by have := K3.out; simpa [inOne] using this
      have b3 : 0 ≤ mark ∧ mark ≤ 4294967295 := by have := K4.out; simpa [inOne] using this
      obtain ⟨b1, b1'⟩ := b1
      obtain ⟨b2, b2'⟩ := b2
      obtain ⟨b3, b3'⟩ := b3
      have hxx : x = rcKind (⟨kind, name, attempt, epoch, mark, size, .slice as_ share.length cs_, share⟩ : Rc) := by
        rw [HX.out, rcOk]
        have e1 : inAll 4294967295 [attempt, epoch, mark] = true := by simp [inAll, K2.out, K3.out, K4.out]
        have e2 : inAll 240 [size, (share.length : Int)] = true := by have := HN.out; simp [inAll, inOne]; omega
        simp only [K1.out, e1, e2, Bool.true_and]
      replace HX := Hid.mk' hxx
      clear hxx
      clear t1 t2 t3
      go_cut [5] (fun c wx => c = .bool (rcAll (⟨kind, name, attempt, epoch, mark, size, .slice as_ share.length cs_, share⟩ : Rc)) ∧ wx = wr)
      case first =>
        by_cases a1 : 0 < attempt
        · have t1 : decide (0 < attempt) = true := by simpa using a1
          have A1 := Hid.mk' a1
          clear a1
          by_cases a2 : 0 < epoch
          · have t2 : decide (0 < epoch) = true := by simpa using a2
            have A2 := Hid.mk' a2
            clear a2
            by_cases a3 : 0 < mark
            · have t3 : decide (0 < mark) = true := by simpa using a3
              have A3 := Hid.mk' a3
              clear a3
              go_wp2_with fail
              go_meet
              case rel => exact ⟨congrArg Value.bool (by (try have h1 := A1.out); (try have h2 := A2.out); (try have h3 := A3.out); simp only [rcAll]; simp <;> omega), rfl⟩
            · have t3 : decide (0 < mark) = false := by simpa using a3
              have A3 := Hid.mk' a3
              clear a3
              go_wp2_with fail
              go_meet
              case rel => exact ⟨congrArg Value.bool (by (try have h1 := A1.out); (try have h2 := A2.out); (try have h3 := A3.out); simp only [rcAll]; simp <;> omega), rfl⟩
          · have t2 : decide (0 < epoch) = false := by simpa using a2
            have A2 := Hid.mk' a2
            clear a2
            go_wp2_with fail
            go_meet
            case rel => exact ⟨congrArg Value.bool (by (try have h1 := A1.out); (try have h2 := A2.out); (try have h3 := A3.out); simp only [rcAll]; simp <;> omega), rfl⟩
        · have t1 : decide (0 < attempt) = false := by simpa using a1
          have A1 := Hid.mk' a1
          clear a1
          go_wp2_with fail
          go_meet
          case rel => exact ⟨congrArg Value.bool (by (try have h1 := A1.out); (try have h2 := A2.out); (try have h3 := A3.out); simp only [rcAll]; simp <;> omega), rfl⟩
      obtain ⟨rfl, rfl⟩ := hcut
      obtain ⟨al, hal⟩ : ∃ al, al = rcAll (⟨kind, name, attempt, epoch, mark, size, .slice as_ share.length cs_, share⟩ : Rc) := ⟨_, rfl⟩
      rw [← hal]
      have HAL := Hid.mk' hal
      clear hal
      by_cases k1 : kind = 1
      · subst k1
        by_cases a1 : 0 < attempt
        · have t1 : decide (0 < attempt) = true := by simpa using a1
          have A1 := Hid.mk' a1
          clear a1
          by_cases a2 : epoch = attempt
          · subst a2
            by_cases a3 : mark = 0
            · subst a3
              go_wp2_with fail
              go_ret
              exact ⟨ret_bool (HX.out.trans (by (have hnn := HN.out); (try have h1 := A1.out); (try have h2 := A2.out); (try have h3 := A3.out); (try have h4 := A4.out); (try have h5 := A5.out); (try have h6 := HAL.out); simp only [rcKind, rcAll]; simp [-List.length_eq_zero_iff] <;> omega)).symm, H4⟩
            · have t3 : (mark == 0) = false := by simpa using a3
              have A3 := Hid.mk' a3
              clear a3
              go_wp2_with fail
              go_ret
              exact ⟨ret_bool (HX.out.trans (by (have hnn := HN.out); (try have h1 := A1.out); (try have h2 := A2.out); (try have h3 := A3.out); (try have h4 := A4.out); (try have h5 := A5.out); (try have h6 := HAL.out); simp only [rcKind, rcAll]; simp [-List.length_eq_zero_iff] <;> omega)).symm, H4⟩
          · have t2 : (epoch == attempt) = false := by simpa using a2
            have A2 := Hid.mk' a2
            clear a2
            go_wp2_with fail
            go_ret
            exact ⟨ret_bool (HX.out.trans (by (have hnn := HN.out); (try have h1 := A1.out); (try have h2 := A2.out); (try have h3 := A3.out); (try have h4 := A4.out); (try have h5 := A5.out); (try have h6 := HAL.out); simp only [rcKind, rcAll]; simp [-List.length_eq_zero_iff] <;> omega)).symm, H4⟩
        · have t1 : decide (0 < attempt) = false := by simpa using a1
          have A1 := Hid.mk' a1
          clear a1
          go_wp2_with fail
          go_ret
          exact ⟨ret_bool (HX.out.trans (by (have hnn := HN.out); (try have h1 := A1.out); (try have h2 := A2.out); (try have h3 := A3.out); (try have h4 := A4.out); (try have h5 := A5.out); (try have h6 := HAL.out); simp only [rcKind, rcAll]; simp [-List.length_eq_zero_iff] <;> omega)).symm, H4⟩
      have q1 : (kind == 1) = false := by simpa using k1
      by_cases k2 : kind = 2
      · subst k2
        clear k1 q1
        go_wp2_with fail
        go_ret
        exact ⟨ret_bool (HX.out.trans (by rw [HAL.out]; rfl)).symm, H4⟩
      have q2 : (kind == 2) = false := by simpa using k2
      by_cases k5 : kind = 5
      · subst k5
        clear k1 q1 k2 q2
        go_wp2_with fail
        go_ret
        exact ⟨ret_bool (HX.out.trans (by rw [HAL.out]; rfl)).symm, H4⟩
      have q5 : (kind == 5) = false := by simpa using k5
      by_cases k3 : kind = 3
      · subst k3
        clear k1 q1 k2 q2 k5 q5
        have h3 : x = (al && decide (share.length = 0)) := by rw [HX.out, HAL.out]; rfl
        replace HX := Hid.mk' h3
        clear h3
        cases al with
        | false =>
          go_wp2_with fail
          go_ret
          exact ⟨ret_bool (HX.out.trans rfl).symm, H4⟩
        | true =>
          by_cases hn0 : n = 0
          · have t0 : ((n : Int) == 0) = true := by rw [beq_iff_eq]; omega
            have A1 := Hid.mk' hn0
            clear hn0
            go_wp2_with fail
            go_ret
            exact ⟨ret_bool (HX.out.trans (by rw [← HN.out, A1.out]; rfl)).symm, H4⟩
          · have t0 : ((n : Int) == 0) = false := by rw [beq_eq_false_iff_ne]; omega
            have A1 := Hid.mk' hn0
            clear hn0
            go_wp2_with fail
            go_ret
            exact ⟨ret_bool (HX.out.trans (by rw [← HN.out, decide_eq_false A1.out]; rfl)).symm, H4⟩
      have q3 : (kind == 3) = false := by simpa using k3
      by_cases k4 : kind = 4
      · subst k4
        clear k1 q1 k2 q2 k5 q5 k3 q3
        clear HAL
        by_cases a1 : attempt = 0
        · subst a1
          by_cases a2 : epoch = 0
          · subst a2
            by_cases a3 : 0 < mark
            · have t3 : decide (0 < mark) = true := by simpa using a3
              have A3 := Hid.mk' a3
              clear a3
              by_cases a4 : size = 0
              · subst a4
                by_cases hn0 : n = 0
                · have t0 : ((n : Int) == 0) = true := by rw [beq_iff_eq]; omega
                  have A1 := Hid.mk' hn0
                  clear hn0
                  go_wp2_with fail
                  go_ret
                  exact ⟨ret_bool (HX.out.trans (by (have hnn := HN.out); (try have h1 := A1.out); (try have h2 := A2.out); (try have h3 := A3.out); (try have h4 := A4.out); (try have h5 := A5.out); (try have h6 := HAL.out); simp only [rcKind, rcAll]; simp [-List.length_eq_zero_iff] <;> omega)).symm, H4⟩
                · have t0 : ((n : Int) == 0) = false := by rw [beq_eq_false_iff_ne]; omega
                  have A1 := Hid.mk' hn0
                  clear hn0
                  go_wp2_with fail
                  go_ret
                  exact ⟨ret_bool (HX.out.trans (by (have hnn := HN.out); (try have h1 := A1.out); (try have h2 := A2.out); (try have h3 := A3.out); (try have h4 := A4.out); (try have h5 := A5.out); (try have h6 := HAL.out); simp only [rcKind, rcAll]; simp [-List.length_eq_zero_iff] <;> omega)).symm, H4⟩
              · have t4 : (size == 0) = false := by simpa using a4
                have A4 := Hid.mk' a4
                clear a4
                go_wp2_with fail
                go_ret
                exact ⟨ret_bool (HX.out.trans (by (have hnn := HN.out); (try have h1 := A1.out); (try have h2 := A2.out); (try have h3 := A3.out); (try have h4 := A4.out); (try have h5 := A5.out); (try have h6 := HAL.out); simp only [rcKind, rcAll]; simp [-List.length_eq_zero_iff] <;> omega)).symm, H4⟩
            · have t3 : decide (0 < mark) = false := by simpa using a3
              have A3 := Hid.mk' a3
              clear a3
              go_wp2_with fail
              go_ret
              exact ⟨ret_bool (HX.out.trans (by (have hnn := HN.out); (try have h1 := A1.out); (try have h2 := A2.out); (try have h3 := A3.out); (try have h4 := A4.out); (try have h5 := A5.out); (try have h6 := HAL.out); simp only [rcKind, rcAll]; simp [-List.length_eq_zero_iff] <;> omega)).symm, H4⟩
          · have t2 : (epoch == 0) = false := by simpa using a2
            have A2 := Hid.mk' a2
            clear a2
            go_wp2_with fail
            go_ret
            exact ⟨ret_bool (HX.out.trans (by (have hnn := HN.out); (try have h1 := A1.out); (try have h2 := A2.out); (try have h3 := A3.out); (try have h4 := A4.out); (try have h5 := A5.out); (try have h6 := HAL.out); simp only [rcKind, rcAll]; simp [-List.length_eq_zero_iff] <;> omega)).symm, H4⟩
        · have t1 : (attempt == 0) = false := by simpa using a1
          have A1 := Hid.mk' a1
          clear a1
          go_wp2_with fail
          go_ret
          exact ⟨ret_bool (HX.out.trans (by (have hnn := HN.out); (try have h1 := A1.out); (try have h2 := A2.out); (try have h3 := A3.out); (try have h4 := A4.out); (try have h5 := A5.out); (try have h6 := HAL.out); simp only [rcKind, rcAll]; simp [-List.length_eq_zero_iff] <;> omega)).symm, H4⟩
      have q4 : (kind == 4) = false := by simpa using k4
      have A1 := Hid.mk' (show ¬ kind = 1 ∧ ¬ kind = 2 ∧ ¬ kind = 3 ∧ ¬ kind = 4 ∧ ¬ kind = 5 from ⟨k1, k2, k3, k4, k5⟩)
      clear k1 k2 k3 k4 k5
      go_wp2_with fail
      go_ret
      obtain ⟨k1, k2, k3, k4, k5⟩ := A1.out
      exact ⟨ret_bool (HX.out.trans (by simp [rcKind, k1, k2, k3, k4, k5])).symm, H4⟩
end Sh
/- Records' laws: what all of them use. -/
set_option linter.unusedVariables false
set_option linter.unusedSimpArgs false
namespace Sh
open Go Go.RowKit Go.Proofs
attribute [local go_sem ↓] Go.wp_at_zero Go.wp_at_succ
set_option maxHeartbeats 1000000
set_option maxRecDepth 100000

theorem recFar_spec {w : World} {R : Snap} {L : Asrt} (r : Rc) (H : Holds w R L) (hr : r.Rd R.cell?) :
    Calls Try.prog 72 #[.agg r.cells.toArray] w fun e w' => e = .returned (.bool (decide (40 < r.name.size) || decide (300 < r.share.length))) ∧ Holds w' R L := by
  obtain ⟨kind, name, attempt, epoch, mark, size, vs, share⟩ := r
  have hs : RdB R.cell? vs share := hr
  obtain ⟨as_, cs_, rfl⟩ := hs.form
  show Calls _ _ #[.agg #[.int .i64 kind, .string name, .int .i64 attempt, .int .i64 epoch, .int .i64 mark, .int .i64 size, .slice as_ share.length cs_]] _ fun e w' => e = .returned (.bool (decide (40 < name.size) || decide (300 < share.length))) ∧ Holds w' R L
  have hmx := hs.max
  unfold maxLen at hmx
  obtain ⟨n, hn⟩ : ∃ n, n = share.length := ⟨_, rfl⟩
  obtain ⟨k, hk⟩ : ∃ k, k = name.size := ⟨_, rfl⟩
  have hkk : (name.size : Int) = (k : Int) := by omega
  rw [← hn] at hmx ⊢
  rw [← hk]
  have H1 := H.garbage (.cells #[.int .i64 kind, .string name, .int .i64 attempt, .int .i64 epoch, .int .i64 mark, .int .i64 size, .slice as_ n cs_] tRec)
  clear hs hn hr hk
  by_cases h1 : 40 < k
  · have t1 : decide ((40 : Int) < (k : Int)) = true := by simp; omega
    go_enter Try.func72, Try.ntmps72
    go_wp2_with fail
    go_ret
    exact ⟨ret_bool (by simp [h1]), H1⟩
  · have t1 : decide ((40 : Int) < (k : Int)) = false := by simp; omega
    go_enter Try.func72, Try.ntmps72
    go_wp2_with fail
    go_ret
    exact ⟨ret_bool (by simp [h1]; omega), H1⟩
theorem recCount_spec {w : World} {R : Snap} {L : Asrt} (r : Rc) (H : Holds w R L) (hr : r.Rd R.cell?) (hz : r.Sz) :
    Calls Try.prog 81 #[.agg r.cells.toArray] w fun e w' => e = .returned (.int .i64 ((if rcOk r = true then (putR r).length else 0 : Nat) : Int)) ∧ Holds w' R L := by
  obtain ⟨y, hy⟩ : ∃ y, y = (if rcOk r = true then (putR r).length else 0) := ⟨_, rfl⟩
  rw [← hy]
  have HY := Hid.mk' hy
  have HR := Hid.mk' hr
  have HZ := Hid.mk' hz
  obtain ⟨kind, name, attempt, epoch, mark, size, vs, share⟩ := r
  obtain ⟨z1, z2⟩ := hz
  have hs := hr
  simp only [Rc.Rd] at z1 z2 hs
  obtain ⟨as_, cs_, rfl⟩ := hs.form
  obtain ⟨n, hn⟩ : ∃ n, n = share.length := ⟨_, rfl⟩
  have HN := Hid.mk' hn
  obtain ⟨R1, le1, H1, hb⟩ := H.allocR (.cells #[.int .i64 kind, .string name, .int .i64 attempt, .int .i64 epoch, .int .i64 mark, .int .i64 size, .slice as_ share.length cs_] tRec (0, 0))
  show Calls _ _ #[.agg #[.int .i64 kind, .string name, .int .i64 attempt, .int .i64 epoch, .int .i64 mark, .int .i64 size, .slice as_ share.length cs_]] _ _
  have hb' : R1.blk w.heap.size = some (.cells #[.int .i64 kind, .string name, .int .i64 attempt, .int .i64 epoch, .int .i64 mark, .int .i64 size, .slice as_ n cs_] tRec (0, 0)) := by rw [hn]; exact hb
  rw [← hn] at z2
  simp only [← hn] at H1 ⊢
  clear hs hr hy hb hn H
  obtain ⟨l1, n1, c1⟩ := Holds.frzFacts (H1) hb'
  go_enter Try.func81, Try.ntmps81
  go_upto_region 1 with fail
  generalize (World.alloc ..) = w1 at H1 l1 n1 c1 ⊢
  generalize w.heap.size = g1 at hb' l1 n1 c1 ⊢
  go_wp2_with fail
  have hcl : (Value.agg #[.int .i64 kind, .string name, .int .i64 attempt, .int .i64 epoch, .int .i64 mark, .int .i64 size, .slice as_ n cs_]) = .agg ((⟨kind, name, attempt, epoch, mark, size, .slice as_ share.length cs_, share⟩ : Rc)).cells.toArray := by rw [HN.out]; rfl
  rw [hcl]
  clear hcl
  refine (recRight_spec (⟨kind, name, attempt, epoch, mark, size, .slice as_ share.length cs_, share⟩ : Rc) H1 (HR.out.le le1) HZ.out).mono ?_
  rintro e w3 ⟨rfl, H3⟩
  clear H1 l1 n1 c1
  obtain ⟨l1, n1, c1⟩ := Holds.frzFacts (H3) hb'
  cases hok : rcOk (⟨kind, name, attempt, epoch, mark, size, .slice as_ share.length cs_, share⟩ : Rc) with
  | false =>
    have HOK := Hid.mk' hok
    clear hok
    go_wp2_with fail
    go_ret
    exact ⟨by rw [HY.out, if_neg (by rw [HOK.out]; decide)]; rfl, H3.weaken le1⟩
  | true =>
    have HOK := Hid.mk' hok
    clear hok
    go_wp2_with fail
    refine (bodies_spec n z2 _).mono ?_
    rintro e w4 ⟨rfl, rfl⟩
    have hb9 : bodiesN n ≤ 100000 := by unfold bodiesN; omega
    obtain ⟨m, hm⟩ : ∃ m, m = 1 + bodiesN n := ⟨_, rfl⟩
    have e1 : (1 : Int) + ((bodiesN n : Nat) : Int) = (m : Int) := by omega
    have HM := Hid.mk' hm
    clear hm
    go_wp2_with fail
    go_ret
    have : y = m := by rw [HY.out, if_pos HOK.out, putR_len, HM.out, HN.out]
    exact ⟨by rw [this]; rfl, H3.weaken le1⟩
def someR (n : Nat) : Rc := ⟨2, ⟨#[97]⟩, 3, 5, 7, 9, .slice none 0 0, List.replicate n 0⟩
theorem some_spec {w : World} {R : Snap} {L : Asrt} (n : Nat) (hn : n ≤ 1000) (H : Holds w R L) :
    Calls Try.prog 153 #[.int .i64 (n : Nat)] w fun e w' => ∃ R', R.le R' ∧ ∃ M : Rc, e = .returned (.agg M.cells.toArray) ∧ M.con = (someR n).con ∧ M.Rd R'.cell? ∧ M.Sz ∧ Holds w' R' L := by
  have H1 := H.alloc #[.int .i64 0, .string ⟨#[]⟩, .int .i64 0, .int .i64 0, .int .i64 0, .int .i64 0, .slice none 0 0] tRec
  clear H
  have hnw : wrap64 (n : Int) = (n : Int) := IntWalk.wrap64_in _ (by omega)
  go_enter Try.func153, Try.ntmps153
  go_wp2_with (with_reducible refine stop_make ?_)
  refine Hold.go (wpList_makeB (n := n) rfl _ _ rfl rfl rfl H1 (by omega) ?_)
  intro v2 w2 H2
  obtain ⟨R3, le3, H3, hr3⟩ := H2.freezeRow
  obtain ⟨m, hm⟩ : ∃ m, m = (List.replicate n (0 : UInt8)).length := ⟨_, rfl⟩
  replace hr3 : RdB R3.cell? v2 (List.replicate n 0) := hr3
  obtain ⟨a3, c3, rfl⟩ := hr3.form
  have HR3 := Hid.mk' hr3
  simp only [List.length_replicate]
  generalize w.heap.size = z at H3 ⊢
  clear H1 H2 hr3 hm
  obtain ⟨l8, n8, c8, z8⟩ := Holds.facts (H3)
  go_wp2_with fail
  have H13 := Holds.blkFull H3 [.int .i64 2, .string ⟨#[97]⟩, .int .i64 3, .int .i64 5, .int .i64 7, .int .i64 9, .slice a3 n c3] rfl
  clear l8 n8 c8 z8
  generalize hw9 : World.setCell .. = w13
  replace H13 := Holds.at hw9 H13
  clear hw9
  refine bodyPost_ret (results_cell_row rfl _ _ z tRec _ (0, 0) _ rfl H13.blkAt Try.underlying108 rfl (by kernel_rfl)) rfl ?_
  exact ⟨R3, le3, ⟨2, ⟨#[97]⟩, 3, 5, 7, 9, .slice a3 n c3, List.replicate n 0⟩, rfl, rfl, RdB.at_len HR3.out (List.length_replicate ..), ⟨by show (⟨#[97]⟩ : ByteArray).size ≤ maxLen; decide, by show (List.replicate n (0 : UInt8)).length ≤ 1000000; rw [List.length_replicate]; omega⟩, H13.drop⟩
theorem same04_spec {w : World} {R : Snap} {L : Asrt} {u v : Value} {ss tt : List (Value × List UInt8)} (H : Holds w R L) (hu : RdBB R.cell? u ss) (hv : RdBB R.cell? v tt) (hs : ∀ x ∈ ss, x.2.length ≤ 1000000) (ht : ∀ x ∈ tt, x.2.length ≤ 1000000) :
    Calls Try.prog 67 #[u, v] w fun e w' => e = .returned (.bool (decide (ss.map Prod.snd = tt.map Prod.snd))) ∧ Holds w' R L := by
  obtain ⟨y, hy⟩ : ∃ y, y = decide (ss.map Prod.snd = tt.map Prod.snd) := ⟨_, rfl⟩
  rw [← hy]
  have HY := Hid.mk' hy
  obtain ⟨a, ca, rfl⟩ := hu.form
  obtain ⟨b, cb, rfl⟩ := hv.form
  have hmx := (Rd.max hu.1)
  unfold maxLen at hmx
  have HU := Hid.mk' hu
  have HV := Hid.mk' hv
  have HS := Hid.mk' hs
  have HT := Hid.mk' ht
  obtain ⟨n, hn⟩ : ∃ n, n = ss.length := ⟨_, rfl⟩
  obtain ⟨m, hm⟩ : ∃ m, m = tt.length := ⟨_, rfl⟩
  have HN := Hid.mk' hn
  have HM := Hid.mk' hm
  rw [← hn] at hmx
  rw [← hn, ← hm]
  clear hu hv hs ht hn hm hy
  by_cases hnm : n = m
  · subst hnm
    go_enter Try.func67, Try.ntmps67
    go_wp2_with fail
    go_loopw [5] (fun i wx => ∃ j : Nat, i = .int .i64 j ∧ j ≤ n ∧ Hid ((ss.map Prod.snd).take j = (tt.map Prod.snd).take j) ∧ Holds wx R L) (fun i _ => n - (intOf i).toNat)
    case atStart => exact ⟨0, rfl, Nat.zero_le _, Hid.mk' rfl, H⟩
    case round =>
      clear H
      obtain ⟨j, rfl, hj, hA, H3⟩ := hrel
      by_cases hlt : j < n
      · have d1 : decide ((j : Int) < (n : Int)) = true := by simp; omega
        have hjs : j < ss.length := by rw [← HN.out]; exact hlt
        have hjt : j < tt.length := by rw [← HM.out]; exact hlt
        obtain ⟨b2, o2, ha2, hc2, hq2⟩ := RdBB.at HU.out hjs
        obtain ⟨b3, o3, ha3, hc3, hq3⟩ := RdBB.at HV.out hjt
        subst ha2 ha3
        replace hc2 := H3.cell hc2
        replace hc3 := H3.cell hc3
        have hl2 := HS.out _ (List.getElem_mem hjs)
        have hl3 := HT.out _ (List.getElem_mem hjt)
        have g2 : (ss.map Prod.snd)[j]? = some ss[j].2 := by rw [List.getElem?_map, List.getElem?_eq_getElem hjs]; rfl
        have g3 : (tt.map Prod.snd)[j]? = some tt[j].2 := by rw [List.getElem?_map, List.getElem?_eq_getElem hjt]; rfl
        generalize ss[j] = x2 at *
        generalize tt[j] = x3 at *
        obtain ⟨v2, l2⟩ := x2
        obtain ⟨v3, l3⟩ := x3
        simp only at hc2 hc3 hq2 hq3 hl2 hl3 g2 g3
        obtain ⟨av2, cv2, rfl⟩ := hq2.form
        obtain ⟨av3, cv3, rfl⟩ := hq3.form
        have hq := fun w' (h : Holds w' R L) => same_spec (Rd.world hq2 h) (Rd.world hq3 h) hl2 hl3
        have HQ := Hid.mk' hq
        have G2 := Hid.mk' g2
        have G3 := Hid.mk' g3
        have i1 : (0 : Int) ≤ (j : Int) := by omega
        have i2 : (j : Int) < (n : Int) := by omega
        have HH := Hid.mk' H3
        clear hq hq2 hq3 hl2 hl3 g2 g3 hjs hjt
        go_wp2_with fail
        go_quiet ((go_at_call 27; exact Calls.quiet_of (HQ.out _ (H3.drewN _))))
        by_cases hll : l2 = l3
        · rw [decide_eq_true hll]
          have HLL := Hid.mk' hll
          clear hll
          go_wp2_with fail
          go_roundw
          case rel =>
            refine ⟨j + 1, by go_num, hlt, Hid.mk' ?_, H3.drewN _⟩
            have e1 := List.take_add_one (l := ss.map Prod.snd) (i := j)
            have e2 := List.take_add_one (l := tt.map Prod.snd) (i := j)
            rw [e1, e2, hA.out, G2.out, G3.out, HLL.out]
          case measure => simp [intOf]; omega
        · rw [decide_eq_false hll]
          have hyy : y = false := by
            rw [HY.out, decide_eq_false_iff_not]
            intro h
            rw [h, G3.out] at G2
            exact hll (Option.some.inj G2.out).symm
          have HYY := Hid.mk' hyy
          clear hyy hll
          go_wp2_with fail
          go_ret
          exact ⟨ret_bool HYY.out.symm, H3.drewN _⟩
      · have d1 : decide ((j : Int) < (n : Int)) = false := by simp; omega
        have hyy : y = true := by
          rw [HY.out, decide_eq_true_eq]
          have h := hA.out
          rwa [List.take_of_length_le (by rw [List.length_map, ← HN.out]; omega), List.take_of_length_le (by rw [List.length_map, ← HM.out]; omega)] at h
        have HYY := Hid.mk' hyy
        clear hyy
        go_wp2_with fail
        go_ret
        exact ⟨ret_bool HYY.out.symm, H3⟩
  · have t0 : ((n : Int) != (m : Int)) = true := by simp; omega
    have hyy : y = false := by
      rw [HY.out, decide_eq_false_iff_not]
      intro h
      have := congrArg List.length h
      rw [List.length_map, List.length_map, ← HN.out, ← HM.out] at this
      exact hnm this
    have HYY := Hid.mk' hyy
    clear hyy hnm
    go_enter Try.func67, Try.ntmps67
    go_wp2_with fail
    go_ret
    exact ⟨ret_bool HYY.out.symm, H⟩
end Sh
/- Records' laws: the document's example. -/
set_option linter.unusedVariables false
set_option linter.unusedSimpArgs false
namespace Sh
open Go Go.RowKit Go.Proofs
attribute [local go_sem ↓] Go.wp_at_zero Go.wp_at_succ
set_option maxHeartbeats 1000000
set_option maxRecDepth 100000

theorem some_ok : rcOk (someR 49) = true := by decide
theorem putR_some {M : Rc} (h : M.con = (someR 49).con) : (putR M).length = 3 := by rw [putR_con h, putR_len]; decide
set_option maxHeartbeats 8000000
theorem alive20 {w : World} {R : Snap} {L : Asrt} (H : Holds w R L) (hcy : L.celly) : Calls Try.prog 73 #[] w fun e w' => e = .returned (.bool true) ∧ Holds w' R L := by
  go_enter Try.func73, Try.ntmps73
  go_wp2_with fail
  refine (new_crc H).mono ?_
  rintro e w1 ⟨p, rfl, H1⟩
  obtain ⟨R1, le1, H2, hT⟩ := H1.freezeBlk
  clear H1 H
  go_wp2_with fail
  refine (some_spec 49 (by decide) H2).mono ?_
  rintro e w2 ⟨R2, le2, M1, rfl, hc1, hr1, hz1, H3⟩
  have hT2 := le2.blk _ _ hT
  have hok1 : rcOk M1 = true := (rcOk_con hc1).trans some_ok
  have HC1 := Hid.mk' hc1
  have HOK1 := Hid.mk' hok1
  have leA := le1.trans le2
  clear H2 hT hc1 hok1 le1 le2
  go_wp2_with fail
  refine (recPut_ok M1 H3 hcy hT2 hr1 hz1 HOK1.out).mono ?_
  rintro e w3 ⟨o, q, rfl, hq, H4⟩
  obtain ⟨R4, le4, H5, hqq⟩ := freezeBB H4
  have hql : q.length = 3 := by
    have := congrArg List.length hq
    rw [List.length_map, putR_some HC1.out] at this
    exact this
  obtain ⟨ao, co, rfl⟩ := hqq.form
  have hT4 := le4.blk _ _ hT2
  have HQ := Hid.mk' hq
  have HQL := Hid.mk' hql
  have HQQ := Hid.mk' hqq
  simp only [hql]
  replace leA := leA.trans le4
  clear H3 H4 hT2 hq hr1 hz1 le4
  go_wp2_with fail
  have hqv : RdBB R4.cell? (.slice ao 3 co) q := by rw [← HQL.out]; exact HQQ.out
  clear hql hqq
  refine recGet_spec H5 hcy hT4 hqv (by rw [HQL.out]; decide) ?_
  intro R6 M n ok w6 le6 hG hMR hMZ H6
  have hpre : putR M1 <+: q.map Prod.snd := by rw [HQ.out]; exact List.prefix_refl _
  have hG' : ok = true ∧ rcOk M = true ∧ putR M <+: q.map Prod.snd ∧ n = (putR M).length := by
    rcases hG with h | ⟨_, _, _, h4⟩
    · exact h
    · exact absurd hpre (h4 M1 HOK1.out)
  obtain ⟨rfl, h1, h2, h3⟩ := hG'
  have hcM : M.con = (someR 49).con := (put_one h1 HOK1.out h2 hpre).trans HC1.out
  rw [putR_some hcM] at h3
  subst h3
  have HRR := Hid.mk' hMR
  have HZZ := Hid.mk' hMZ
  have HS1 : Hid (∀ x : Rc, x.con = (someR 49).con → rcSame M x = true) := Hid.mk' (fun x hx => rcSame_yes (hcM.trans hx.symm))
  have HS2 : Hid (∀ x : Rc, x.con = (someR 48).con → rcSame M x = false) := Hid.mk' (fun x hx => decide_eq_false (by
    rw [hcM, hx]
    intro h
    have := congrArg (fun x => x.2.2.length) h
    simp [Rc.con, someR] at this))
  have HCN : Hid ((if rcOk M = true then (putR M).length else 0) = 3) := Hid.mk' (by rw [if_pos h1, putR_some hcM])
  clear h1 h2 hcM hpre hqv H5 hG
  replace leA := leA.trans le6
  obtain ⟨kind, name, attempt, epoch, mark, size, vs, share⟩ := M
  obtain ⟨z1, z2⟩ := hMZ
  have hs := hMR
  simp only [Rc.Rd] at z1 z2 hs
  obtain ⟨as_, cs_, rfl⟩ := hs.form
  have hcl : ((⟨kind, name, attempt, epoch, mark, size, .slice as_ share.length cs_, share⟩ : Rc)).cells = [.int .i64 kind, .string name, .int .i64 attempt, .int .i64 epoch, .int .i64 mark, .int .i64 size, .slice as_ share.length cs_] := rfl
  simp only [hcl]
  obtain ⟨R7, le7, H7, hb7⟩ := H6.allocR (.cells #[.int .i64 kind, .string name, .int .i64 attempt, .int .i64 epoch, .int .i64 mark, .int .i64 size, .slice as_ share.length cs_] tRec (0, 0))
  clear hs hMR z1 z2 hcl
  go_upto_region 4 with fail
  generalize (World.alloc ..) = w7 at H7 ⊢
  generalize w6.heap.size = g7 at hb7 ⊢
  obtain ⟨l7, n7, c7⟩ := Holds.frzFacts (H7) hb7
  go_region_held3 (fun w' => (∀ o, w'.cell? ⟨g7, o, none⟩ = #[.int .i64 kind, .string name, .int .i64 attempt, .int .i64 epoch, .int .i64 mark, .int .i64 size, .slice as_ share.length cs_][o]?)) (first | (exact H25.frz (le23.blk _ _ (le21.blk _ _ hb7))) | (exact H24.frz (le23.blk _ _ (le21.blk _ _ hb7))) | (exact H23.frz (le23.blk _ _ (le21.blk _ _ hb7))) | (exact H22.frz (le21.blk _ _ hb7)) | (exact H21.frz (le21.blk _ _ hb7)) | ((repeat' (first | assumption | (with_reducible refine And.intro ?_ ?_) | (with_reducible refine keep_drew ?_) | (with_reducible refine keep_drewN ?_) | (with_reducible refine keep_alloc ?_ (by first | assumption | (simp only [World.size_alloc, World.size_drew, World.size_setCell]; omega))) | (with_reducible refine keep_set ?_ (by first | assumption | omega)))))) (first | (go_at_call 153; first | (refine (some_spec 48 (by decide) H22).mono ?_; rintro e w23 ⟨R23, le23, M23, rfl, hc23, hr23, hz23, H23⟩) | (refine (some_spec 49 (by decide) H7.drew).mono ?_; rintro e w21 ⟨R21, le21, M21, rfl, hc21, hr21, hz21, H21⟩)) | (go_at_call 79; first | (refine (recSame_spec (⟨kind, name, attempt, epoch, mark, size, .slice as_ share.length cs_, share⟩ : Rc) M23 H23 (((HRR.out.le le7).le le21).le le23) HZZ.out hr23 hz23).mono ?_; rintro e w24 ⟨rfl, H24⟩; rw [HS2.out _ hc23]) | (refine (recSame_spec (⟨kind, name, attempt, epoch, mark, size, .slice as_ share.length cs_, share⟩ : Rc) M21 H21 ((HRR.out.le le7).le le21) HZZ.out hr21 hz21).mono ?_; rintro e w22 ⟨rfl, H22⟩; rw [HS1.out _ hc21])) | (go_at_call 81; refine (recCount_spec (⟨kind, name, attempt, epoch, mark, size, .slice as_ share.length cs_, share⟩ : Rc) H24 (((HRR.out.le le7).le le21).le le23) HZZ.out).mono ?_; rintro e w25 ⟨rfl, H25⟩; rw [HCN.out]) | (go_at_call 77; refine (role_spec 5 _).mono ?_; rintro e w26 ⟨rfl, rfl⟩; rw [show roleI 5 = 2 from rfl]))
  all_goals
    go_wp2_with fail
    go_ret
    exact ⟨rfl, H25.weaken (leA.trans (le7.trans (le21.trans le23)))⟩
end Sh
/- RecordApart: the walk. -/
set_option linter.unusedVariables false
set_option linter.unusedSimpArgs false
namespace Sh
open Go Go.RowKit Go.Proofs
attribute [local go_sem ↓] Go.wp_at_zero Go.wp_at_succ
set_option maxHeartbeats 1000000
set_option maxRecDepth 100000

theorem putR_apart {m x : Rc} (hm : rcOk m = true) (hx : rcOk x = true) : decide (putR m = putR x) = rcSame m x := by
  unfold rcSame
  apply decide_eq_decide.2
  constructor
  · intro h
    exact put_one hm hx (List.prefix_refl _) (by rw [h]; exact List.prefix_refl _)
  · exact putR_con
theorem putR_lens {m : Rc} {q : List (Value × List UInt8)} (h : q.map Prod.snd = putR m) : ∀ x ∈ q, x.2.length ≤ 1000000 := by
  intro x hx
  have h1 : x.2 ∈ putR m := by rw [← h]; exact List.mem_map_of_mem hx
  have h2 : ∃ p, x.2 = sealS p := by
    unfold putR at h1
    rcases List.mem_cons.1 h1 with h3 | h3
    · exact ⟨_, h3⟩
    · obtain ⟨i, _, h4⟩ := List.mem_map.1 h3
      exact ⟨_, h4.symm⟩
  obtain ⟨p, hp⟩ := h2
  rw [hp]
  have := sealS_len_le p
  omega
theorem far_no {a b : Nat} (h : (decide (40 < a) || decide (300 < b)) = false) : a ≤ 40 ∧ b ≤ 300 := by
  simp only [Bool.or_eq_false_iff, decide_eq_false_iff_not] at h
  omega
set_option maxHeartbeats 8000000
theorem recordApart_walk (W : World) {m x : Rc} (hm : m.Rd W.cell? ∧ m.name.size ≤ maxLen) (hx : x.Rd W.cell? ∧ x.name.size ≤ maxLen) :
    Calls Try.prog 18 #[.agg m.cells.toArray, .agg x.cells.toArray] W fun e w' => e = .returned (.bool true) ∧ Below W.heap.size W w' := by
  obtain ⟨hm, hz1⟩ := hm
  obtain ⟨hx, hz2⟩ := hx
  have HM0 : Hid (m.Rd (Snap.of W).cell?) := Hid.mk' hm
  have HX0 : Hid (x.Rd (Snap.of W).cell?) := Hid.mk' hx
  have HZ := Hid.mk' hz1
  have HZX := Hid.mk' hz2
  obtain ⟨kind, name, attempt, epoch, mark, size, vs, share⟩ := m
  obtain ⟨kind', name', attempt', epoch', mark', size', vs', share'⟩ := x
  have hs : RdB W.cell? vs share := hm
  have hs' : RdB W.cell? vs' share' := hx
  obtain ⟨as_, cs_, rfl⟩ := hs.form
  obtain ⟨as', cs', rfl⟩ := hs'.form
  clear hs hs' hm hx hz1 hz2
  show Calls _ _ #[.agg #[.int .i64 kind, .string name, .int .i64 attempt, .int .i64 epoch, .int .i64 mark, .int .i64 size, .slice as_ share.length cs_], .agg #[.int .i64 kind', .string name', .int .i64 attempt', .int .i64 epoch', .int .i64 mark', .int .i64 size', .slice as' share'.length cs']] _ _
  obtain ⟨R1, le1, H1, hb1⟩ := (Holds.start W).allocR (.cells #[.int .i64 kind, .string name, .int .i64 attempt, .int .i64 epoch, .int .i64 mark, .int .i64 size, .slice as_ share.length cs_] tRec (0, 0))
  obtain ⟨R2, le2, H2, hb2⟩ := H1.allocR (.cells #[.int .i64 kind', .string name', .int .i64 attempt', .int .i64 epoch', .int .i64 mark', .int .i64 size', .slice as' share'.length cs'] tRec (0, 0))
  replace hb1 := le2.blk _ _ hb1
  have leA := le1.trans le2
  have HM := Hid.mk' (HM0.out.le leA)
  have HX := Hid.mk' (HX0.out.le leA)
  simp only [World.size_alloc] at hb2
  clear H1
  go_enter Try.func18, Try.ntmps18
  go_upto_region 1 with fail
  generalize (World.alloc ..) = w1 at H2 ⊢
  generalize W.heap.size + 1 = g2 at hb2 ⊢
  generalize hg : W.heap.size = g at hb1 ⊢
  obtain ⟨l1, n1, c1⟩ := Holds.frzFacts (H2) hb1
  obtain ⟨l2, n2, c2⟩ := Holds.frzFacts (H2) hb2
  go_wp2_with fail
  refine (recFar_spec (⟨kind, name, attempt, epoch, mark, size, .slice as_ share.length cs_, share⟩ : Rc) H2 HM.out).mono ?_
  rintro e w5 ⟨rfl, H5⟩
  clear H2 l1 n1 c1 l2 n2 c2
  obtain ⟨b, hb⟩ : ∃ b, b = (decide (40 < ((⟨kind, name, attempt, epoch, mark, size, .slice as_ share.length cs_, share⟩ : Rc)).name.size) || decide (300 < ((⟨kind, name, attempt, epoch, mark, size, .slice as_ share.length cs_, share⟩ : Rc)).share.length)) := ⟨_, rfl⟩
  rw [← hb]
  have HB := Hid.mk' hb.symm
  clear hb
  cases b with
  | true =>
    go_wp2_with fail
    refine (alive20 H5 celly_emp).mono ?_
    rintro e w99 ⟨rfl, H99⟩
    go_wp2_with fail
    go_ret
    exact ⟨rfl, hg ▸ H99.toBelow (leA)⟩
  | false =>
  have hf := far_no HB.out
  simp only at hf
  have HSZ : Hid (Rc.Sz (⟨kind, name, attempt, epoch, mark, size, .slice as_ share.length cs_, share⟩ : Rc)) := Hid.mk' ⟨HZ.out, by show share.length ≤ 1000000; omega⟩
  clear HB
  obtain ⟨l2, n2, c2⟩ := Holds.frzFacts (H5) hb2
  go_wp2_with fail
  refine (recFar_spec (⟨kind', name', attempt', epoch', mark', size', .slice as' share'.length cs', share'⟩ : Rc) H5 HX.out).mono ?_
  rintro e w6 ⟨rfl, H6⟩
  clear H5 l2 n2 c2
  obtain ⟨b, hb⟩ : ∃ b, b = (decide (40 < ((⟨kind', name', attempt', epoch', mark', size', .slice as' share'.length cs', share'⟩ : Rc)).name.size) || decide (300 < ((⟨kind', name', attempt', epoch', mark', size', .slice as' share'.length cs', share'⟩ : Rc)).share.length)) := ⟨_, rfl⟩
  rw [← hb]
  have HB := Hid.mk' hb.symm
  clear hb
  cases b with
  | true =>
    go_wp2_with fail
    refine (alive20 H6 celly_emp).mono ?_
    rintro e w99 ⟨rfl, H99⟩
    go_wp2_with fail
    go_ret
    exact ⟨rfl, hg ▸ H99.toBelow (leA)⟩
  | false =>
  have hf' := far_no HB.out
  simp only at hf'
  have HSX : Hid (Rc.Sz (⟨kind', name', attempt', epoch', mark', size', .slice as' share'.length cs', share'⟩ : Rc)) := Hid.mk' ⟨HZX.out, by show share'.length ≤ 1000000; omega⟩
  clear HB hf hf'
  obtain ⟨l1, n1, c1⟩ := Holds.frzFacts (H6) hb1
  go_wp2_with fail
  refine (rrecRight_spec (⟨kind, name, attempt, epoch, mark, size, .slice as_ share.length cs_, share⟩ : Rc) H6 HM.out HSZ.out).mono ?_
  rintro e w7 ⟨rfl, H7⟩
  clear H6 l1 n1 c1
  cases hok : rcOk (⟨kind, name, attempt, epoch, mark, size, .slice as_ share.length cs_, share⟩ : Rc) with
  | false =>
    go_wp2_with fail
    refine (alive20 H7 celly_emp).mono ?_
    rintro e w99 ⟨rfl, H99⟩
    go_wp2_with fail
    go_ret
    exact ⟨rfl, hg ▸ H99.toBelow (leA)⟩
  | true =>
  have HOK := Hid.mk' hok
  clear hok
  obtain ⟨l2, n2, c2⟩ := Holds.frzFacts (H7) hb2
  go_wp2_with fail
  refine (rrecRight_spec (⟨kind', name', attempt', epoch', mark', size', .slice as' share'.length cs', share'⟩ : Rc) H7 HX.out HSX.out).mono ?_
  rintro e w8 ⟨rfl, H8⟩
  clear H7 l2 n2 c2
  cases hok : rcOk (⟨kind', name', attempt', epoch', mark', size', .slice as' share'.length cs', share'⟩ : Rc) with
  | false =>
    go_wp2_with fail
    refine (alive20 H8 celly_emp).mono ?_
    rintro e w99 ⟨rfl, H99⟩
    go_wp2_with fail
    go_ret
    exact ⟨rfl, hg ▸ H99.toBelow (leA)⟩
  | true =>
  have HOX := Hid.mk' hok
  clear hok
  go_wp2_with fail
  refine (new_crc H8).mono ?_
  rintro e w9 ⟨p, rfl, H9⟩
  obtain ⟨R3, le3, H10, hT⟩ := H9.freezeBlk
  replace hb1 := le3.blk _ _ hb1
  replace hb2 := le3.blk _ _ hb2
  replace leA := leA.trans le3
  replace HM := Hid.mk' (HM.out.le le3)
  replace HX := Hid.mk' (HX.out.le le3)
  clear H8 H9 le1 le2 le3
  obtain ⟨l1, n1, c1⟩ := Holds.frzFacts (H10) hb1
  go_wp2_with fail
  refine (recPut_ok (⟨kind, name, attempt, epoch, mark, size, .slice as_ share.length cs_, share⟩ : Rc) H10 celly_emp hT HM.out HSZ.out HOK.out).mono ?_
  rintro e w11 ⟨o, q, rfl, hq, H11⟩
  obtain ⟨R4, le4, H12, hr⟩ := freezeBB H11
  have HQ := Hid.mk' hq
  replace hb1 := le4.blk _ _ hb1
  replace hb2 := le4.blk _ _ hb2
  replace hT := le4.blk _ _ hT
  replace leA := leA.trans le4
  replace HM := Hid.mk' (HM.out.le le4)
  replace HX := Hid.mk' (HX.out.le le4)
  obtain ⟨aa, ca, rfl⟩ := hr.form
  have HA := Hid.mk' hr
  clear H10 l1 n1 c1 H11 hr le4 hq
  obtain ⟨l2, n2, c2⟩ := Holds.frzFacts (H12) hb2
  go_wp2_with fail
  refine (recPut_ok (⟨kind', name', attempt', epoch', mark', size', .slice as' share'.length cs', share'⟩ : Rc) H12 celly_emp hT HX.out HSX.out HOX.out).mono ?_
  rintro e w13 ⟨o, q2, rfl, hq2, H13⟩
  obtain ⟨R5, le5, H14, hr⟩ := freezeBB H13
  have HQ2 := Hid.mk' hq2
  replace HA := Hid.mk' (HA.out.le le5)
  replace hb1 := le5.blk _ _ hb1
  replace hb2 := le5.blk _ _ hb2
  replace leA := leA.trans le5
  replace HM := Hid.mk' (HM.out.le le5)
  replace HX := Hid.mk' (HX.out.le le5)
  obtain ⟨ab, cb, rfl⟩ := hr.form
  have HBB := Hid.mk' hr
  clear H12 l2 n2 c2 H13 hr le5 hT hq2
  obtain ⟨y, hy⟩ : ∃ y, y = rcSame (⟨kind, name, attempt, epoch, mark, size, .slice as_ share.length cs_, share⟩ : Rc) (⟨kind', name', attempt', epoch', mark', size', .slice as' share'.length cs', share'⟩ : Rc) := ⟨_, rfl⟩
  have HE : Hid (decide (q.map Prod.snd = q2.map Prod.snd) = y) := Hid.mk' (by
    have h1 : q.map Prod.snd = putR (⟨kind, name, attempt, epoch, mark, size, .slice as_ share.length cs_, share⟩ : Rc) := HQ.out
    have h2 : q2.map Prod.snd = putR (⟨kind', name', attempt', epoch', mark', size', .slice as' share'.length cs', share'⟩ : Rc) := HQ2.out
    rw [h1, h2, putR_apart HOK.out HOX.out, hy])
  have HY := Hid.mk' hy
  clear hy
  obtain ⟨l1, n1, c1⟩ := Holds.frzFacts (H14) hb1
  obtain ⟨l2, n2, c2⟩ := Holds.frzFacts (H14) hb2
  go_upto_region 6 with fail
  cases y
  all_goals
    go_region_held3 (fun w' => (∀ o, w'.cell? ⟨g, o, none⟩ = #[.int .i64 kind, .string name, .int .i64 attempt, .int .i64 epoch, .int .i64 mark, .int .i64 size, .slice as_ share.length cs_][o]?) ∧ (∀ o, w'.cell? ⟨g2, o, none⟩ = #[.int .i64 kind', .string name', .int .i64 attempt', .int .i64 epoch', .int .i64 mark', .int .i64 size', .slice as' share'.length cs'][o]?)) (first | (exact And.intro (H23.frz hb1) (H23.frz hb2)) | (exact And.intro (H22.frz hb1) (H22.frz hb2)) | (exact And.intro (H21.frz hb1) (H21.frz hb2)) | ((repeat' (first | assumption | (with_reducible refine And.intro ?_ ?_) | (with_reducible refine keep_drew ?_) | (with_reducible refine keep_drewN ?_) | (with_reducible refine keep_alloc ?_ (by first | assumption | (simp only [World.size_alloc, World.size_drew, World.size_setCell]; omega))) | (with_reducible refine keep_set ?_ (by first | assumption | omega)))))) (first | (go_at_call 67; refine (same04_spec H14.drew HA.out HBB.out (putR_lens HQ.out) (putR_lens HQ2.out)).mono ?_; rintro e w21 ⟨rfl, H21⟩; rw [HE.out]) | (go_at_call 73; refine (alive20 H22 celly_emp).mono ?_; rintro e w23 ⟨rfl, H23⟩) | (go_at_call 80; refine (rrecSame_spec (⟨kind, name, attempt, epoch, mark, size, .slice as_ share.length cs_, share⟩ : Rc) (⟨kind', name', attempt', epoch', mark', size', .slice as' share'.length cs', share'⟩ : Rc) H21 HM.out HSZ.out HX.out HSX.out).mono ?_; rintro e w22 ⟨rfl, H22⟩; rw [← HY.out]))
    go_wp2_with fail
    go_ret
    exact ⟨rfl, hg ▸ H23.toBelow leA⟩
end Sh
/- sherdref20.Are, Count. -/
set_option linter.unusedVariables false
set_option linter.unusedSimpArgs false
namespace Sh
open Go Go.RowKit Go.Proofs
attribute [local go_sem ↓] Go.wp_at_zero Go.wp_at_succ
set_option maxHeartbeats 1000000
set_option maxRecDepth 100000

set_option maxHeartbeats 8000000
theorem rrecCount_spec {w : World} {R : Snap} {L : Asrt} (r : Rc) (H : Holds w R L) (hr : r.Rd R.cell?) (hz : r.Sz) :
    Calls Try.prog 84 #[.agg r.cells.toArray] w fun e w' => e = .returned (.int .i64 (((putR r).length : Nat) : Int)) ∧ Holds w' R L := by
  obtain ⟨y, hy⟩ : ∃ y, y = (putR r).length := ⟨_, rfl⟩
  rw [← hy]
  have hy2 : y = 1 + bodiesN r.share.length := by rw [hy, putR_len]
  obtain ⟨kind, name, attempt, epoch, mark, size, vs, share⟩ := r
  obtain ⟨z1, z2⟩ := hz
  have hs := hr
  simp only [Rc.Rd] at z1 z2 hs
  obtain ⟨as_, cs_, rfl⟩ := hs.form
  obtain ⟨n, hn⟩ : ∃ n, n = share.length := ⟨_, rfl⟩
  obtain ⟨R1, le1, H1, hb⟩ := H.allocR (.cells #[.int .i64 kind, .string name, .int .i64 attempt, .int .i64 epoch, .int .i64 mark, .int .i64 size, .slice as_ share.length cs_] tRec (0, 0))
  show Calls _ _ #[.agg #[.int .i64 kind, .string name, .int .i64 attempt, .int .i64 epoch, .int .i64 mark, .int .i64 size, .slice as_ share.length cs_]] _ _
  have hb' : R1.blk w.heap.size = some (.cells #[.int .i64 kind, .string name, .int .i64 attempt, .int .i64 epoch, .int .i64 mark, .int .i64 size, .slice as_ n cs_] tRec (0, 0)) := by rw [hn]; exact hb
  rw [← hn] at z2
  simp only [← hn] at H1 hy2 ⊢
  have HY := Hid.mk' hy2
  clear hs hr hy hb hn H hy2
  obtain ⟨l1, n1, c1⟩ := Holds.frzFacts (H1) hb'
  go_enter Try.func84, Try.ntmps84
  go_upto_region 1 with fail
  generalize (World.alloc ..) = w1 at H1 l1 n1 c1 ⊢
  generalize w.heap.size = g1 at hb' l1 n1 c1 ⊢
  go_wp2_with fail
  clear l1 n1 c1
  go_loopw [3, 4] (fun s3 i wx => ∃ j a : Nat, s3 = .int .i64 ((1 + j : Nat) : Int) ∧ i = .int .i64 (a : Int) ∧ a = 48 * j ∧ j ≤ bodiesN n ∧ Holds wx R1 L) (fun _ i _ => 48 * bodiesN n + 100 - (intOf i).toNat)
  case atStart => exact ⟨0, 0, rfl, rfl, rfl, Nat.zero_le _, H1⟩
  case round =>
    clear H1
    obtain ⟨j, a, rfl, rfl, ha, hj, H3⟩ := hrel
    obtain ⟨l1, n1, c1⟩ := Holds.frzFacts (H3) hb'
    by_cases hlt : a < n
    · have d1 : decide ((a : Int) < (n : Int)) = true := by simp; omega
      have d2 : decide (a < n) = true := by simp; omega
      have hjb : j + 1 ≤ bodiesN n := by unfold bodiesN; omega
      have HJB := Hid.mk' hjb
      have HA := Hid.mk' ha
      have ha9 : a ≤ 1000000 := by omega
      have hj9 : 1 + j ≤ 1000000 := by omega
      obtain ⟨k, hk⟩ : ∃ k, k = 1 + j := ⟨_, rfl⟩
      rw [← hk] at hj9 ⊢
      have HK := Hid.mk' hk
      clear hjb ha hj hk
      go_wp2_with fail
      go_roundw
      case rel => exact ⟨j + 1, a + 48, by rw [HK.out]; go_num, by go_num, by have := HA.out; omega, HJB.out, H3⟩
      case measure =>
        have := HJB.out
        have := HA.out
        simp [intOf]; omega
    · have d1 : decide ((a : Int) < (n : Int)) = false := by simp; omega
      have d2 : decide (a < n) = false := by simp; omega
      have hjj : y = 1 + j := by rw [HY.out]; unfold bodiesN at hj ⊢; omega
      have HJJ := Hid.mk' hjj
      clear hjj hj ha
      go_wp2_with fail
      go_ret
      exact ⟨by rw [HJJ.out]; rfl, H3.weaken le1⟩
theorem rrecAre_spec {w : World} {R : Snap} {L : Asrt} {v : Value} {ss : List (Value × List UInt8)} (r : Rc) (H : Holds w R L) (hv : RdBB R.cell? v ss) (hlen : ∀ x ∈ ss, x.2.length ≤ 1000000) (hr : r.Rd R.cell?) (hz : r.Sz) :
    Calls Try.prog 86 #[v, .agg r.cells.toArray] w fun e w' => e = .returned (.bool (decide (rcOk r = true ∧ putR r <+: ss.map Prod.snd))) ∧ Holds w' R L := by
  obtain ⟨y, hy⟩ : ∃ y, y = decide (rcOk r = true ∧ putR r <+: ss.map Prod.snd) := ⟨_, rfl⟩
  rw [← hy]
  have HY := Hid.mk' hy
  have HR := Hid.mk' hr
  have HZ := Hid.mk' hz
  have HS := Hid.mk' hlen
  obtain ⟨a, ca, rfl⟩ := hv.form
  have hmx := (Rd.max hv.1)
  unfold maxLen at hmx
  have HV := Hid.mk' hv
  obtain ⟨n, hn⟩ : ∃ n, n = ss.length := ⟨_, rfl⟩
  have HN := Hid.mk' hn
  rw [← hn] at hmx ⊢
  obtain ⟨kind, name, attempt, epoch, mark, size, vs, share⟩ := r
  obtain ⟨z1, z2⟩ := hz
  have hs := hr
  simp only [Rc.Rd] at z1 z2 hs
  obtain ⟨as_, cs_, rfl⟩ := hs.form
  obtain ⟨R1, le1, H1, hb1⟩ := H.allocR (.cells #[.int .i64 kind, .string name, .int .i64 attempt, .int .i64 epoch, .int .i64 mark, .int .i64 size, .slice as_ share.length cs_] tRec (0, 0))
  clear H hv hn hy hlen hs hr z1 z2
  show Calls _ _ #[_, .agg #[.int .i64 kind, .string name, .int .i64 attempt, .int .i64 epoch, .int .i64 mark, .int .i64 size, .slice as_ share.length cs_]] _ _
  go_enter Try.func86, Try.ntmps86
  go_upto_region 1 with fail
  generalize (World.alloc ..) = w1 at H1 ⊢
  generalize w.heap.size = g at hb1 ⊢
  obtain ⟨l1, n1, c1⟩ := Holds.frzFacts (H1) hb1
  go_wp2_with fail
  refine (rrecRight_spec (⟨kind, name, attempt, epoch, mark, size, .slice as_ share.length cs_, share⟩ : Rc) H1 (HR.out.le le1) HZ.out).mono ?_
  rintro e w3 ⟨rfl, H3⟩
  clear H1 l1 n1 c1
  cases hok : rcOk (⟨kind, name, attempt, epoch, mark, size, .slice as_ share.length cs_, share⟩ : Rc) with
  | false =>
    have HYY : Hid (y = false) := Hid.mk' (by rw [HY.out, decide_eq_false_iff_not, hok]; rintro ⟨h, _⟩; cases h)
    clear hok
    go_wp2_with fail
    go_ret
    exact ⟨ret_bool HYY.out.symm, H3.weaken le1⟩
  | true =>
  have HOK := Hid.mk' hok
  clear hok
  obtain ⟨l1, n1, c1⟩ := Holds.frzFacts (H3) hb1
  go_wp2_with fail
  refine (rrecPut_ok (⟨kind, name, attempt, epoch, mark, size, .slice as_ share.length cs_, share⟩ : Rc) H3 (HR.out.le le1) HZ.out HOK.out).mono ?_
  rintro e w4 ⟨o, q, rfl, hq, H4⟩
  unfold rowsR at H4
  obtain ⟨R5, le5, H5, hqq⟩ := freezeBB H4
  obtain ⟨ao, co, rfl⟩ := hqq.form
  have hqm := Rd.max hqq.1
  unfold maxLen at hqm
  obtain ⟨m, hm⟩ : ∃ m, m = q.length := ⟨_, rfl⟩
  have HM := Hid.mk' hm
  have HQ := Hid.mk' hq
  have HQQ := Hid.mk' hqq
  have HPL : Hid ((putR (⟨kind, name, attempt, epoch, mark, size, .slice as_ share.length cs_, share⟩ : Rc)).length = m) := Hid.mk' (by rw [← hq, List.length_map, hm])
  have HT := Hid.mk' (putR_lens hq)
  have leA := le1.trans le5
  replace HV := Hid.mk' (HV.out.le leA)
  rw [← hm] at hqm ⊢
  clear H3 H4 hqq hq hm l1 n1 c1 hb1
  by_cases hnm : n < m
  · have t1 : decide ((n : Int) < (m : Int)) = true := by simp; omega
    have t1n : decide (n < m) = true := by simp; omega
    have HYY : Hid (y = false) := Hid.mk' (by
      rw [HY.out, decide_eq_false_iff_not]
      rintro ⟨_, h⟩
      have := h.length_le
      rw [HPL.out, List.length_map, ← HN.out] at this
      omega)
    clear hnm
    go_wp2_with fail
    go_ret
    exact ⟨ret_bool HYY.out.symm, H5.weaken leA⟩
  · have t1 : decide ((n : Int) < (m : Int)) = false := by simp; omega
    have t1n : decide (n < m) = false := by simp; omega
    have hmn : m ≤ n := by omega
    clear hnm
    go_wp2_with fail
    go_loopw [6] (fun i wx => ∃ j : Nat, i = .int .i64 j ∧ j ≤ m ∧ Hid ((putR (⟨kind, name, attempt, epoch, mark, size, .slice as_ share.length cs_, share⟩ : Rc)).take j = (ss.map Prod.snd).take j) ∧ Holds wx R5 L) (fun i _ => m - (intOf i).toNat)
    case atStart => exact ⟨0, rfl, Nat.zero_le _, Hid.mk' rfl, H5⟩
    case round =>
      clear H5
      obtain ⟨j, rfl, hj, hA, H3⟩ := hrel
      by_cases hlt : j < m
      · have d1 : decide ((j : Int) < (m : Int)) = true := by simp; omega
        have hjs : j < ss.length := by rw [← HN.out]; omega
        have hjt : j < q.length := by rw [← HM.out]; exact hlt
        obtain ⟨b2, o2, ha2, hc2, hq2⟩ := RdBB.at HV.out hjs
        obtain ⟨b3, o3, ha3, hc3, hq3⟩ := RdBB.at HQQ.out hjt
        subst ha2 ha3
        replace hc2 := H3.cell hc2
        replace hc3 := H3.cell hc3
        have hl2 := HS.out _ (List.getElem_mem hjs)
        have hl3 := HT.out _ (List.getElem_mem hjt)
        have g2 : (ss.map Prod.snd)[j]? = some ss[j].2 := by rw [List.getElem?_map, List.getElem?_eq_getElem hjs]; rfl
        have g3 : (putR (⟨kind, name, attempt, epoch, mark, size, .slice as_ share.length cs_, share⟩ : Rc))[j]? = some q[j].2 := by rw [← HQ.out, List.getElem?_map, List.getElem?_eq_getElem hjt]; rfl
        generalize ss[j] = x2 at *
        generalize q[j] = x3 at *
        obtain ⟨v2, l2⟩ := x2
        obtain ⟨v3, l3⟩ := x3
        simp only at hc2 hc3 hq2 hq3 hl2 hl3 g2 g3
        obtain ⟨av2, cv2, rfl⟩ := hq2.form
        obtain ⟨av3, cv3, rfl⟩ := hq3.form
        have hq := fun w' (h : Holds w' R5 L) => same_spec (Rd.world hq2 h) (Rd.world hq3 h) hl2 hl3
        have HSM := Hid.mk' hq
        have G2 := Hid.mk' g2
        have G3 := Hid.mk' g3
        have i1 : (0 : Int) ≤ (j : Int) := by omega
        have i2 : (j : Int) < (n : Int) := by omega
        have i3 : (j : Int) < (m : Int) := by omega
        have HH := Hid.mk' H3
        clear hq hq2 hq3 hl2 hl3 g2 g3 hjs hjt
        go_wp2_with fail
        go_quiet ((go_at_call 27; exact Calls.quiet_of (HSM.out _ (H3.drewN _))))
        by_cases hll : l2 = l3
        · rw [decide_eq_true hll]
          have HLL := Hid.mk' hll
          clear hll
          go_wp2_with fail
          go_roundw
          case rel =>
            refine ⟨j + 1, by go_num, hlt, Hid.mk' ?_, H3.drewN _⟩
            have e1 := List.take_add_one (l := putR (⟨kind, name, attempt, epoch, mark, size, .slice as_ share.length cs_, share⟩ : Rc)) (i := j)
            have e2 := List.take_add_one (l := ss.map Prod.snd) (i := j)
            rw [e1, e2, hA.out, G2.out, G3.out, HLL.out]
          case measure => simp [intOf]; omega
        · rw [decide_eq_false hll]
          have HYY : Hid (y = false) := Hid.mk' (by
            rw [HY.out, decide_eq_false_iff_not]
            rintro ⟨_, t, ht⟩
            have h := G3.out
            have h2 := G2.out
            rw [← ht, List.getElem?_append_left (by rw [HPL.out]; exact hlt), h] at h2
            exact hll (Option.some.inj h2).symm)
          clear hll
          go_wp2_with fail
          go_ret
          exact ⟨ret_bool HYY.out.symm, (H3.drewN _).weaken leA⟩
      · have d1 : decide ((j : Int) < (m : Int)) = false := by simp; omega
        obtain rfl : j = m := by omega
        have HYY : Hid (y = true) := Hid.mk' (by
          rw [HY.out, decide_eq_true_eq]
          refine ⟨HOK.out, ?_⟩
          have h := hA.out
          rw [List.take_of_length_le (by rw [HPL.out]; exact Nat.le_refl _)] at h
          rw [h]
          exact List.take_prefix _ _)
        go_wp2_with fail
        go_ret
        exact ⟨ret_bool HYY.out.symm, H3.weaken leA⟩
end Sh
