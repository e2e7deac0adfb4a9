/- A record: its cells; whether it may be; role; numbers. -/
import Derived.Test.YtmogagcffebbaaaMsgIn
import Derived.Test.YtmogagcffebbaaaBytesEq
set_option linter.unusedVariables false
set_option linter.unusedSimpArgs false
namespace Sh
open Go Go.RowKit Go.Proofs
attribute [local go_sem ↓] Go.wp_at_zero Go.wp_at_succ
set_option maxHeartbeats 1000000
set_option maxRecDepth 100000

structure Rc where
  kind : Int
  name : ByteArray
  attempt : Int
  epoch : Int
  mark : Int
  size : Int
  vs : Value
  share : List UInt8
abbrev tRec : TypeId := 108
def Rc.cells (r : Rc) : List Value := [.int .i64 r.kind, .string r.name, .int .i64 r.attempt, .int .i64 r.epoch, .int .i64 r.mark, .int .i64 r.size, r.vs]
def Rc.Rd (c : Addr → Option Value) (r : Rc) : Prop := RdB c r.vs r.share
def Rc.Sz (r : Rc) : Prop := r.name.size ≤ maxLen ∧ r.share.length ≤ 1000000
def Rc.con (r : Rc) : List Int × ByteArray × List UInt8 := ([r.kind, r.attempt, r.epoch, r.mark, r.size], r.name, r.share)
theorem Rc.Rd.le {R R' : Snap} {m : Rc} (h : m.Rd R.cell?) (l : R.le R') : m.Rd R'.cell? := Sh.Rd.le h l
theorem Rc.Rd.world {w : World} {R : Snap} {L : Asrt} {m : Rc} (h : m.Rd R.cell?) (H : Holds w R L) : m.Rd w.cell? := Sh.Rd.world h H
def rcAll (r : Rc) : Bool := decide (0 < r.attempt) && decide (0 < r.epoch) && decide (0 < r.mark)
def rcKind (r : Rc) : Bool :=
  if r.kind = 1 then decide (0 < r.attempt) && decide (r.epoch = r.attempt) && decide (r.mark = 0)
  else if r.kind = 2 ∨ r.kind = 5 then rcAll r
  else if r.kind = 3 then rcAll r && decide (r.share.length = 0)
  else if r.kind = 4 then decide (r.attempt = 0) && decide (r.epoch = 0) && decide (0 < r.mark) && decide (r.size = 0) && decide (r.share.length = 0)
  else false
def rcOk (r : Rc) : Bool := nameOk r.name && inAll 4294967295 [r.attempt, r.epoch, r.mark] && inAll 240 [r.size, (r.share.length : Int)] && rcKind r
theorem rcOk_con {m x : Rc} (h : m.con = x.con) : rcOk m = rcOk x := by
  simp only [Rc.con, Prod.mk.injEq, List.cons.injEq, and_true] at h
  obtain ⟨⟨h1, h2, h3, h4, h5⟩, h6, h7⟩ := h
  simp only [rcOk, rcKind, rcAll, h1, h2, h3, h4, h5, h6, h7]
theorem number_spec (n : Int) (w : World) : Calls Try.prog 156 #[.int .i64 n] w fun e w' => e = .returned (.bool (inOne 4294967295 n)) ∧ w = w' := by
  by_cases h0 : 0 ≤ n
  · have t0 : decide (0 ≤ n) = true := by simpa using h0
    by_cases h1 : n ≤ 4294967295
    · have t1 : decide (n ≤ 4294967295) = true := by simpa using h1
      go_enter Try.func156, Try.ntmps156
      go_wp2_with fail
      go_ret
      exact ⟨ret_bool (by simp [inOne, h0, h1]), rfl⟩
    · have t1 : decide (n ≤ 4294967295) = false := by simpa using h1
      go_enter Try.func156, Try.ntmps156
      go_wp2_with fail
      go_ret
      exact ⟨ret_bool (by simp [inOne, h1]), rfl⟩
  · have t0 : decide (0 ≤ n) = false := by simpa using h0
    go_enter Try.func156, Try.ntmps156
    go_wp2_with fail
    go_ret
    exact ⟨ret_bool (by simp [inOne]; omega), rfl⟩
def bodiesN (n : Nat) : Nat := (n + 47) / 48
theorem bodies_spec (n : Nat) (h : n ≤ 1000000) (w : World) : Calls Try.prog 157 #[.int .i64 (n : Nat)] w fun e w' => e = .returned (.int .i64 (bodiesN n : Nat)) ∧ w = w' := by
  go_enter Try.func157, Try.ntmps157
  go_wp2_with fail
  go_ret
  refine ⟨ret_int ?_, rfl⟩
  unfold bodiesN
  have e1 : IntKind.i64.wrap ((n : Int) + 48) = (n : Int) + 48 := IntWalk.i64_in _ (by omega)
  first | omega | (rw [Int.tdiv_eq_ediv_of_nonneg (by omega)]; omega)
def roleI (k : Int) : Int := if k = 2 ∨ k = 3 ∨ k = 4 then 0 else if k = 1 then 1 else if k = 5 then 2 else -1
theorem role_spec (k : Int) (w : World) : Calls Try.prog 77 #[.int .i64 k] w fun e w' => e = .returned (.int .i64 (roleI k)) ∧ w = w' := by
  by_cases h2 : k = 2
  · subst h2
    go_enter Try.func77, Try.ntmps77
    go_wp2_with fail
    go_ret
    exact ⟨rfl, rfl⟩
  by_cases h3 : k = 3
  · subst h3
    go_enter Try.func77, Try.ntmps77
    go_wp2_with fail
    go_ret
    exact ⟨rfl, rfl⟩
  by_cases h4 : k = 4
  · subst h4
    go_enter Try.func77, Try.ntmps77
    go_wp2_with fail
    go_ret
    exact ⟨rfl, rfl⟩
  by_cases h1 : k = 1
  · subst h1
    go_enter Try.func77, Try.ntmps77
    go_wp2_with fail
    go_ret
    exact ⟨rfl, rfl⟩
  by_cases h5 : k = 5
  · subst h5
    go_enter Try.func77, Try.ntmps77
    go_wp2_with fail
    go_ret
    exact ⟨rfl, rfl⟩
  have b1 : (k == 1) = false := by simpa using h1
  have b2 : (k == 2) = false := by simpa using h2
  have b3 : (k == 3) = false := by simpa using h3
  have b4 : (k == 4) = false := by simpa using h4
  have b5 : (k == 5) = false := by simpa using h5
  go_enter Try.func77, Try.ntmps77
  go_wp2_with fail
  go_ret
  exact ⟨by simp [roleI, h1, h2, h3, h4, h5], rfl⟩
theorem rrole_spec (k : Int) {w : World} {R : Snap} {L : Asrt} (H : Holds w R L) : Calls Try.prog 78 #[.int .i64 k] w fun e w' => e = .returned (.int .i64 (roleI k)) ∧ Holds w' R L := by
  by_cases h0 : k < 1
  · have t0 : decide (k < 1) = true := by simpa using h0
    go_enter Try.func78, Try.ntmps78
    go_wp2_with fail
    go_ret
    exact ⟨ret_int (by unfold roleI; rw [if_neg (by omega), if_neg (by omega), if_neg (by omega)]), H⟩
  have t0 : decide (k < 1) = false := by simpa using h0
  by_cases h6 : 5 < k
  · have t6 : decide (5 < k) = true := by simpa using h6
    go_enter Try.func78, Try.ntmps78
    go_wp2_with fail
    go_ret
    exact ⟨ret_int (by unfold roleI; rw [if_neg (by omega), if_neg (by omega), if_neg (by omega)]), H⟩
  clear t0
  rcases (show k = 1 ∨ k = 2 ∨ k = 3 ∨ k = 4 ∨ k = 5 by omega) with rfl | rfl | rfl | rfl | rfl
  all_goals
    go_enter Try.func78, Try.ntmps78
    go_wp2_with fail
    go_ret
    exact ⟨rfl, H.garbage _⟩
theorem recRight_spec {w : World} {R : Snap} {L : Asrt} (r : Rc) (H : Holds w R L) (hr : r.Rd R.cell?) (hz : r.Sz) :
    Calls Try.prog 76 #[.agg r.cells.toArray] w fun e w' => e = .returned (.bool (rcOk r)) ∧ Holds w' R L := by
  obtain ⟨x, hx⟩ : ∃ x, x = rcOk r := ⟨_, rfl⟩
  rw [← hx]
  obtain ⟨kind, name, attempt, epoch, mark, size, vs, share⟩ := r
  obtain ⟨z1, z2⟩ := hz
  have hs := hr
  simp only [Rc.Rd] at z1 z2 hs
  obtain ⟨as_, cs_, rfl⟩ := hs.form
  have HX := Hid.mk' hx
  have hR := right_spec z1
  obtain ⟨n, hn⟩ : ∃ n, n = share.length := ⟨_, rfl⟩
  have HN := Hid.mk' hn
  obtain ⟨R1, le1, H1, hb⟩ := H.allocR (.cells #[.int .i64 kind, .string name, .int .i64 attempt, .int .i64 epoch, .int .i64 mark, .int .i64 size, .slice as_ share.length cs_] tRec (0, 0))
  simp only [← hn] at hb H1
  show Calls _ _ #[.agg #[.int .i64 kind, .string name, .int .i64 attempt, .int .i64 epoch, .int .i64 mark, .int .i64 size, .slice as_ share.length cs_]] _ _
  simp only [← hn]
  have z3 : n ≤ 1000000 := by omega
  obtain ⟨l1, n1, c1⟩ := Holds.frzFacts (H1) hb
  replace H1 := H1.weaken le1
  clear hs hx H hb z1 z2 hn hr le1
  go_enter Try.func76, Try.ntmps76
  go_wp2_with fail
  refine (hR _).mono ?_
  rintro e w1 ⟨rfl, rfl⟩
  clear hR
  cases h1 : nameOk name with
  | false =>
    go_wp2_with fail
    go_ret
    exact ⟨ret_bool (HX.out.trans (by simp [rcOk, h1])).symm, H1⟩
  | true =>
  have K1 := Hid.mk' h1
  clear h1
  go_wp2_with fail
  refine (number_spec _ _).mono ?_
  rintro e w1 ⟨rfl, rfl⟩
  cases h1 : inOne 4294967295 attempt with
  | false =>
    go_wp2_with fail
    go_ret
    exact ⟨ret_bool (HX.out.trans (by simp [rcOk, inAll, h1])).symm, H1⟩
  | true =>
  have K2 := Hid.mk' h1
  clear h1
  go_wp2_with fail
  refine (number_spec _ _).mono ?_
  rintro e w1 ⟨rfl, rfl⟩
  cases h1 : inOne 4294967295 epoch with
  | false =>
    go_wp2_with fail
    go_ret
    exact ⟨ret_bool (HX.out.trans (by simp [rcOk, inAll, h1])).symm, H1⟩
  | true =>
  have K3 := Hid.mk' h1
  clear h1
  go_wp2_with fail
  refine (number_spec _ _).mono ?_
  rintro e w1 ⟨rfl, rfl⟩
  cases h1 : inOne 4294967295 mark with
  | false =>
    go_wp2_with fail
    go_ret
    exact ⟨ret_bool (HX.out.trans (by simp [rcOk, inAll, h1])).symm, H1⟩
  | true =>
  have K4 := Hid.mk' h1
  clear h1
  by_cases h1 : size < 0
  · have t1 : decide (size < 0) = true := by simpa using h1
    go_wp2_with fail
    go_ret
    exact ⟨ret_bool (HX.out.trans (by simp [rcOk, inAll, inOne]; omega)).symm, H1⟩
  have t1 : decide (size < 0) = false := by simpa using h1
  by_cases h2 : 240 < size
  · have t2 : decide (240 < size) = true := by simpa using h2
    go_wp2_with fail
    go_ret
    exact ⟨ret_bool (HX.out.trans (by simp [rcOk, inAll, inOne]; omega)).symm, H1⟩
  have t2 : decide (240 < size) = false := by simpa using h2
  by_cases h3 : 240 < n
  · have t3 : decide ((240 : Int) < (n : Int)) = true := by simp; omega
    go_wp2_with fail
    go_ret
    exact ⟨ret_bool (HX.out.trans (by have := HN.out; simp [rcOk, inAll, inOne]; omega)).symm, H1⟩
  have t3 : decide ((240 : Int) < (n : Int)) = false := by simp; omega
  go_upto_region 3 with fail
  have b1 : 0 ≤ attempt ∧ attempt ≤ 4294967295 := by have := K2.out; simpa [inOne] using this
  have b2 : 0 ≤ epoch ∧ epoch ≤ 4294967295 := by have := K3.out; simpa [inOne] using this
  have b3 : 0 ≤ mark ∧ mark ≤ 4294967295 := by have := K4.out; simpa [inOne] using this
  obtain ⟨b1, b1'⟩ := b1
  obtain ⟨b2, b2'⟩ := b2
  obtain ⟨b3, b3'⟩ := b3
  have hxx : x = rcKind (⟨kind, name, attempt, epoch, mark, size, .slice as_ share.length cs_, share⟩ : Rc) := by
    rw [HX.out, rcOk]
    have e1 : inAll 4294967295 [attempt, epoch, mark] = true := by simp [inAll, K2.out, K3.out, K4.out]
    have e2 : inAll 240 [size, (share.length : Int)] = true := by have := HN.out; simp [inAll, inOne]; omega
    simp only [K1.out, e1, e2, Bool.true_and]
  replace HX := Hid.mk' hxx
  clear hxx
  clear t1 t2 t3
  by_cases k1 : kind = 1
  · subst k1
    by_cases a1 : 0 < attempt
    · have t1 : decide (0 < attempt) = true := by simpa using a1
      have A1 := Hid.mk' a1
      clear a1
      by_cases a2 : epoch = attempt
      · subst a2
        by_cases a3 : mark = 0
        · subst a3
          go_wp2_with fail
          go_ret
          exact ⟨ret_bool (HX.out.trans (by (have hnn := HN.out); (try have h1 := A1.out); (try have h2 := A2.out); (try have h3 := A3.out); (try have h4 := A4.out); (try have h5 := A5.out); (try have h6 := HAL.out); simp only [rcKind, rcAll]; simp [-List.length_eq_zero_iff] <;> omega)).symm, H1⟩
        · have t3 : (mark == 0) = false := by simpa using a3
          have A3 := Hid.mk' a3
          clear a3
          go_wp2_with fail
          go_ret
          exact ⟨ret_bool (HX.out.trans (by (have hnn := HN.out); (try have h1 := A1.out); (try have h2 := A2.out); (try have h3 := A3.out); (try have h4 := A4.out); (try have h5 := A5.out); (try have h6 := HAL.out); simp only [rcKind, rcAll]; simp [-List.length_eq_zero_iff] <;> omega)).symm, H1⟩
      · have t2 : (epoch == attempt) = false := by simpa using a2
        have A2 := Hid.mk' a2
        clear a2
        go_wp2_with fail
        go_ret
        exact ⟨ret_bool (HX.out.trans (by (have hnn := HN.out); (try have h1 := A1.out); (try have h2 := A2.out); (try have h3 := A3.out); (try have h4 := A4.out); (try have h5 := A5.out); (try have h6 := HAL.out); simp only [rcKind, rcAll]; simp [-List.length_eq_zero_iff] <;> omega)).symm, H1⟩
    · have t1 : decide (0 < attempt) = false := by simpa using a1
      have A1 := Hid.mk' a1
      clear a1
      go_wp2_with fail
      go_ret
      exact ⟨ret_bool (HX.out.trans (by (have hnn := HN.out); (try have h1 := A1.out); (try have h2 := A2.out); (try have h3 := A3.out); (try have h4 := A4.out); (try have h5 := A5.out); (try have h6 := HAL.out); simp only [rcKind, rcAll]; simp [-List.length_eq_zero_iff] <;> omega)).symm, H1⟩
  have q1 : (kind == 1) = false := by simpa using k1
  by_cases k4 : kind = 4
  · subst k4
    clear q1 k1
    by_cases a1 : 0 < mark
    · have t1 : decide (0 < mark) = true := by simpa using a1
      have A1 := Hid.mk' a1
      clear a1
      obtain ⟨s1, hs1⟩ : ∃ s1, s1 = attempt + epoch := ⟨_, rfl⟩
      obtain ⟨s2, hs2⟩ : ∃ s2, s2 = s1 + size := ⟨_, rfl⟩
      obtain ⟨s3, hs3⟩ : ∃ s3, s3 = s2 + (n : Int) := ⟨_, rfl⟩
      have e1 : IntKind.i64.wrap (attempt + epoch) = s1 := by rw [hs1]; exact IntWalk.i64_in _ (by omega)
      have e2 : IntKind.i64.wrap (s1 + size) = s2 := by rw [hs2]; exact IntWalk.i64_in _ (by omega)
      have e3 : IntKind.i64.wrap (s2 + (n : Int)) = s3 := by rw [hs3]; exact IntWalk.i64_in _ (by omega)
      have A5 := Hid.mk' (show s3 = attempt + epoch + size + (n : Int) by omega)
      have f1 : wrap64 (attempt + epoch) = s1 := by rw [hs1]; exact IntWalk.wrap64_in _ (by omega)
      have f2 : wrap64 (s1 + size) = s2 := by rw [hs2]; exact IntWalk.wrap64_in _ (by omega)
      have f3 : wrap64 (s2 + (n : Int)) = s3 := by rw [hs3]; exact IntWalk.wrap64_in _ (by omega)
      have A6 := Hid.mk' (And.intro hs1 (And.intro hs2 hs3))
      by_cases a2 : s3 = 0
      · have t2 : (s3 == 0) = true := by simpa using a2
        have A2 := Hid.mk' a2
        clear a2
        clear hs1 hs2 hs3
        go_wp2_with fail
        go_ret
        exact ⟨ret_bool (HX.out.trans (by (have hnn := HN.out); (try have h1 := A1.out); (try have h2 := A2.out); (try have h3 := A3.out); (try have h4 := A4.out); (try have h5 := A5.out); (try have h6 := HAL.out); simp only [rcKind, rcAll]; simp [-List.length_eq_zero_iff] <;> omega)).symm, H1⟩
      · have t2 : (s3 == 0) = false := by simpa using a2
        have A2 := Hid.mk' a2
        clear a2
        clear hs1 hs2 hs3
        go_wp2_with fail
        go_ret
        exact ⟨ret_bool (HX.out.trans (by (have hnn := HN.out); (try have h1 := A1.out); (try have h2 := A2.out); (try have h3 := A3.out); (try have h4 := A4.out); (try have h5 := A5.out); (try have h6 := HAL.out); simp only [rcKind, rcAll]; simp [-List.length_eq_zero_iff] <;> omega)).symm, H1⟩
    · have t1 : decide (0 < mark) = false := by simpa using a1
      have A1 := Hid.mk' a1
      clear a1
      go_wp2_with fail
      go_ret
      exact ⟨ret_bool (HX.out.trans (by (have hnn := HN.out); (try have h1 := A1.out); (try have h2 := A2.out); (try have h3 := A3.out); (try have h4 := A4.out); (try have h5 := A5.out); (try have h6 := HAL.out); simp only [rcKind, rcAll]; simp [-List.length_eq_zero_iff] <;> omega)).symm, H1⟩
  have q4 : (kind == 4) = false := by simpa using k4
  have fin : ∀ y : Bool, y = rcAll (⟨kind, name, attempt, epoch, mark, size, .slice as_ share.length cs_, share⟩ : Rc) → (kind = 2 ∨ kind = 5 ∨ (kind = 3 ∧ n = 0)) → y = x := by
    intro y hy hk
    rw [HX.out, hy, rcKind, if_neg k1]
    have := HN.out
    rcases hk with h | h | ⟨h, h'⟩
    · rw [if_pos (.inl h)]
    · rw [if_pos (.inr h)]
    · rw [if_neg (by simp only; omega), if_pos h, decide_eq_true (by simp only; omega), Bool.and_true]
  have FIN := Hid.mk' fin
  clear fin
  by_cases k3 : kind = 3
  · subst k3
    clear k1 q1 k4 q4
    by_cases hn0 : n = 0
    · subst hn0
      have HN0 := Hid.mk' (rfl : 0 = 0)
      by_cases a1 : 0 < attempt
      · have t1 : decide (0 < attempt) = true := by simpa using a1
        have A1 := Hid.mk' a1
        clear a1
        by_cases a2 : 0 < epoch
        · have t2 : decide (0 < epoch) = true := by simpa using a2
          have A2 := Hid.mk' a2
          clear a2
          by_cases a3 : 0 < mark
          · have t3 : decide (0 < mark) = true := by simpa using a3
            have A3 := Hid.mk' a3
            clear a3
            go_wp2_with fail
            go_ret
            exact ⟨ret_bool (FIN.out _ (by (try have h1 := A1.out); (try have h2 := A2.out); (try have h3 := A3.out); simp only [rcAll]; simp <;> omega) (by first | trivial | exact HN0.out | simp [HN0.out] | simp)), H1⟩
          · have t3 : decide (0 < mark) = false := by simpa using a3
            have A3 := Hid.mk' a3
            clear a3
            go_wp2_with fail
            go_ret
            exact ⟨ret_bool (FIN.out _ (by (try have h1 := A1.out); (try have h2 := A2.out); (try have h3 := A3.out); simp only [rcAll]; simp <;> omega) (by first | trivial | exact HN0.out | simp [HN0.out] | simp)), H1⟩
        · have t2 : decide (0 < epoch) = false := by simpa using a2
          have A2 := Hid.mk' a2
          clear a2
          go_wp2_with fail
          go_ret
          exact ⟨ret_bool (FIN.out _ (by (try have h1 := A1.out); (try have h2 := A2.out); (try have h3 := A3.out); simp only [rcAll]; simp <;> omega) (by first | trivial | exact HN0.out | simp [HN0.out] | simp)), H1⟩
      · have t1 : decide (0 < attempt) = false := by simpa using a1
        have A1 := Hid.mk' a1
        clear a1
        go_wp2_with fail
        go_ret
        exact ⟨ret_bool (FIN.out _ (by (try have h1 := A1.out); (try have h2 := A2.out); (try have h3 := A3.out); simp only [rcAll]; simp <;> omega) (by first | trivial | exact HN0.out | simp [HN0.out] | simp)), H1⟩
    · have t0 : decide ((0 : Int) < (n : Int)) = true := by simp; omega
      have t1 : 0 < n := by omega
      have A1 := Hid.mk' hn0
      clear hn0
      go_wp2_with fail
      go_ret
      exact ⟨ret_bool (HX.out.trans (by (have hnn := HN.out); (try have h1 := A1.out); (try have h2 := A2.out); (try have h3 := A3.out); (try have h4 := A4.out); (try have h5 := A5.out); (try have h6 := HAL.out); simp only [rcKind, rcAll]; simp [-List.length_eq_zero_iff] <;> omega)).symm, H1⟩
  have q3 : (kind == 3) = false := by simpa using k3
  by_cases k2 : kind = 2
  · subst k2
    clear k1 q1 k4 q4 k3 q3
    by_cases a1 : 0 < attempt
    · have t1 : decide (0 < attempt) = true := by simpa using a1
      have A1 := Hid.mk' a1
      clear a1
      by_cases a2 : 0 < epoch
      · have t2 : decide (0 < epoch) = true := by simpa using a2
        have A2 := Hid.mk' a2
        clear a2
        by_cases a3 : 0 < mark
        · have t3 : decide (0 < mark) = true := by simpa using a3
          have A3 := Hid.mk' a3
          clear a3
          go_wp2_with fail
          go_ret
          exact ⟨ret_bool (FIN.out _ (by (try have h1 := A1.out); (try have h2 := A2.out); (try have h3 := A3.out); simp only [rcAll]; simp <;> omega) (by first | trivial | exact HN0.out | simp [HN0.out] | simp)), H1⟩
        · have t3 : decide (0 < mark) = false := by simpa using a3
          have A3 := Hid.mk' a3
          clear a3
          go_wp2_with fail
          go_ret
          exact ⟨ret_bool (FIN.out _ (by (try have h1 := A1.out); (try have h2 := A2.out); (try have h3 := A3.out); simp only [rcAll]; simp <;> omega) (by first | trivial | exact HN0.out | simp [HN0.out] | simp)), H1⟩
      · have t2 : decide (0 < epoch) = false := by simpa using a2
        have A2 := Hid.mk' a2
        clear a2
        go_wp2_with fail
        go_ret
        exact ⟨ret_bool (FIN.out _ (by (try have h1 := A1.out); (try have h2 := A2.out); (try have h3 := A3.out); simp only [rcAll]; simp <;> omega) (by first | trivial | exact HN0.out | simp [HN0.out] | simp)), H1⟩
    · have t1 : decide (0 < attempt) = false := by simpa using a1
      have A1 := Hid.mk' a1
      clear a1
      go_wp2_with fail
      go_ret
      exact ⟨ret_bool (FIN.out _ (by (try have h1 := A1.out); (try have h2 := A2.out); (try have h3 := A3.out); simp only [rcAll]; simp <;> omega) (by first | trivial | exact HN0.out | simp [HN0.out] | simp)), H1⟩
  have q2 : (kind == 2) = false := by simpa using k2
  by_cases k5 : kind = 5
  · subst k5
    clear k1 q1 k4 q4 k3 q3 k2 q2
    by_cases a1 : 0 < attempt
    · have t1 : decide (0 < attempt) = true := by simpa using a1
      have A1 := Hid.mk' a1
      clear a1
      by_cases a2 : 0 < epoch
      · have t2 : decide (0 < epoch) = true := by simpa using a2
        have A2 := Hid.mk' a2
        clear a2
        by_cases a3 : 0 < mark
        · have t3 : decide (0 < mark) = true := by simpa using a3
          have A3 := Hid.mk' a3
          clear a3
          go_wp2_with fail
          go_ret
          exact ⟨ret_bool (FIN.out _ (by (try have h1 := A1.out); (try have h2 := A2.out); (try have h3 := A3.out); simp only [rcAll]; simp <;> omega) (by first | trivial | exact HN0.out | simp [HN0.out] | simp)), H1⟩
        · have t3 : decide (0 < mark) = false := by simpa using a3
          have A3 := Hid.mk' a3
          clear a3
          go_wp2_with fail
          go_ret
          exact ⟨ret_bool (FIN.out _ (by (try have h1 := A1.out); (try have h2 := A2.out); (try have h3 := A3.out); simp only [rcAll]; simp <;> omega) (by first | trivial | exact HN0.out | simp [HN0.out] | simp)), H1⟩
      · have t2 : decide (0 < epoch) = false := by simpa using a2
        have A2 := Hid.mk' a2
        clear a2
        go_wp2_with fail
        go_ret
        exact ⟨ret_bool (FIN.out _ (by (try have h1 := A1.out); (try have h2 := A2.out); (try have h3 := A3.out); simp only [rcAll]; simp <;> omega) (by first | trivial | exact HN0.out | simp [HN0.out] | simp)), H1⟩
    · have t1 : decide (0 < attempt) = false := by simpa using a1
      have A1 := Hid.mk' a1
      clear a1
      go_wp2_with fail
      go_ret
      exact ⟨ret_bool (FIN.out _ (by (try have h1 := A1.out); (try have h2 := A2.out); (try have h3 := A3.out); simp only [rcAll]; simp <;> omega) (by first | trivial | exact HN0.out | simp [HN0.out] | simp)), H1⟩
  have q5 : (kind == 5) = false := by simpa using k5
  have A1 := Hid.mk' (show ¬ kind = 1 ∧ ¬ kind = 2 ∧ ¬ kind = 3 ∧ ¬ kind = 4 ∧ ¬ kind = 5 from ⟨k1, k2, k3, k4, k5⟩)
  clear k1 k2 k3 k4 k5
  go_wp2_with fail
  go_ret
  obtain ⟨k1, k2, k3, k4, k5⟩ := A1.out
  exact ⟨ret_bool (HX.out.trans (by simp [rcKind, k1, k2, k3, k4, k5])).symm, H1⟩
end Sh
