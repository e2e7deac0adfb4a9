/- Rec RecPieces Sector Disk DiskNew: joined texts, each with its own sentence below. -/
import Derived.Test.YtmogagcffebbaaaRg3
import Derived.Test.YtmogagcffebbaaaRg7
import Derived.RangeFuncBox
import Derived.TacticsInMore
import Derived.LoopNIn
import Derived.LoopIn
import Derived.Test.YtmogagcffebbaaaRg5
import Derived.Stop.BytesEq
import Derived.Laws.Rows
/- A record: its cells; whether it may be; role; numbers. -/
set_option linter.unusedVariables false
set_option linter.unusedSimpArgs false
namespace Sh
open Go Go.RowKit Go.Proofs
attribute [local go_sem ↓] Go.wp_at_zero Go.wp_at_succ
set_option maxHeartbeats 1000000
set_option maxRecDepth 100000

structure Rc where
  kind : Int
  name : ByteArray
  attempt : Int
  epoch : Int
  mark : Int
  size : Int
  vs : Value
  share : List UInt8
abbrev tRec : TypeId := 108
def Rc.cells (r : Rc) : List Value := [.int .i64 r.kind, .string r.name, .int .i64 r.attempt, .int .i64 r.epoch, .int .i64 r.mark, .int .i64 r.size, r.vs]
def Rc.Rd (c : Addr → Option Value) (r : Rc) : Prop := RdB c r.vs r.share
def Rc.Sz (r : Rc) : Prop := r.name.size ≤ maxLen ∧ r.share.length ≤ 1000000
def Rc.con (r : Rc) : List Int × ByteArray × List UInt8 := ([r.kind, r.attempt, r.epoch, r.mark, r.size], r.name, r.share)
theorem Rc.Rd.le {R R' : Snap} {m : Rc} (h : m.Rd R.cell?) (l : R.le R') : m.Rd R'.cell? := Sh.Rd.le h l
theorem Rc.Rd.world {w : World} {R : Snap} {L : Asrt} {m : Rc} (h : m.Rd R.cell?) (H : Holds w R L) : m.Rd w.cell? := Sh.Rd.world h H
def rcAll (r : Rc) : Bool := decide (0 < r.attempt) && decide (0 < r.epoch) && decide (0 < r.mark)
def rcKind (r : Rc) : Bool :=
  if r.kind = 1 then decide (0 < r.attempt) && decide (r.epoch = r.attempt) && decide (r.mark = 0)
  else if r.kind = 2 ∨ r.kind = 5 then rcAll r
  else if r.kind = 3 then rcAll r && decide (r.share.length = 0)
  else if r.kind = 4 then decide (r.attempt = 0) && decide (r.epoch = 0) && decide (0 < r.mark) && decide (r.size = 0) && decide (r.share.length = 0)
  else false
def rcOk (r : Rc) : Bool := nameOk r.name && inAll 4294967295 [r.attempt, r.epoch, r.mark] && inAll 240 [r.size, (r.share.length : Int)] && rcKind r
theorem rcOk_con {m x : Rc} (h : m.con = x.con) : rcOk m = rcOk x := by
  simp only [Rc.con, Prod.mk.injEq, List.cons.injEq, and_true] at h
  obtain ⟨⟨h1, h2, h3, h4, h5⟩, h6, h7⟩ := h
  simp only [rcOk, rcKind, rcAll, h1, h2, h3, h4, h5, h6, h7]
theorem number_spec (n : Int) (w : World) : Calls Try.prog 156 #[.int .i64 n] w fun e w' => e = .returned (.bool (inOne 4294967295 n)) ∧ w = w' := by
  by_cases h0 : 0 ≤ n
  · have t0 : decide (0 ≤ n) = true := by simpa using h0
    by_cases h1 : n ≤ 4294967295
    · have t1 : decide (n ≤ 4294967295) = true := by simpa using h1
      go_enter Try.func156, Try.ntmps156
      go_wp2_with fail
      go_ret
      exact ⟨ret_bool (by simp [inOne, h0, h1]), rfl⟩
    · have t1 : decide (n ≤ 4294967295) = false := by simpa using h1
      go_enter Try.func156, Try.ntmps156
      go_wp2_with fail
      go_ret
      exact ⟨ret_bool (by simp [inOne, h1]), rfl⟩
  · have t0 : decide (0 ≤ n) = false := by simpa using h0
    go_enter Try.func156, Try.ntmps156
    go_wp2_with fail
    go_ret
    exact ⟨ret_bool (by simp [inOne]; omega), rfl⟩
def bodiesN (n : Nat) : Nat := (n + 47) / 48
theorem bodies_spec (n : Nat) (h : n ≤ 1000000) (w : World) : Calls Try.prog 157 #[.int .i64 (n : Nat)] w fun e w' => e = .returned (.int .i64 (bodiesN n : Nat)) ∧ w = w' := by
  go_enter Try.func157, Try.ntmps157
  go_wp2_with fail
  go_ret
  refine ⟨ret_int ?_, rfl⟩
  unfold bodiesN
  have e1 : IntKind.i64.wrap ((n : Int) + 48) = (n : Int) + 48 := IntWalk.i64_in _ (by omega)
  first | omega | (rw [Int.tdiv_eq_ediv_of_nonneg (by omega)]; omega)
def roleI (k : Int) : Int := if k = 2 ∨ k = 3 ∨ k = 4 then 0 else if k = 1 then 1 else if k = 5 then 2 else -1
theorem role_spec (k : Int) (w : World) : Calls Try.prog 77 #[.int .i64 k] w fun e w' => e = .returned (.int .i64 (roleI k)) ∧ w = w' := by
  by_cases h2 : k = 2
  · subst h2
    go_enter Try.func77, Try.ntmps77
    go_wp2_with fail
    go_ret
    exact ⟨rfl, rfl⟩
  by_cases h3 : k = 3
  · subst h3
    go_enter Try.func77, Try.ntmps77
    go_wp2_with fail
    go_ret
    exact ⟨rfl, rfl⟩
  by_cases h4 : k = 4
  · subst h4
    go_enter Try.func77, Try.ntmps77
    go_wp2_with fail
    go_ret
    exact ⟨rfl, rfl⟩
  by_cases h1 : k = 1
  · subst h1
    go_enter Try.func77, Try.ntmps77
    go_wp2_with fail
    go_ret
    exact ⟨rfl, rfl⟩
  by_cases h5 : k = 5
  · subst h5
    go_enter Try.func77, Try.ntmps77
    go_wp2_with fail
    go_ret
    exact ⟨rfl, rfl⟩
  have b1 : (k == 1) = false := by simpa using h1
  have b2 : (k == 2) = false := by simpa using h2
  have b3 : (k == 3) = false := by simpa using h3
  have b4 : (k == 4) = false := by simpa using h4
  have b5 : (k == 5) = false := by simpa using h5
  go_enter Try.func77, Try.ntmps77
  go_wp2_with fail
  go_ret
  exact ⟨by simp [roleI, h1, h2, h3, h4, h5], rfl⟩
theorem rrole_spec (k : Int) {w : World} {R : Snap} {L : Asrt} (H : Holds w R L) : Calls Try.prog 78 #[.int .i64 k] w fun e w' => e = .returned (.int .i64 (roleI k)) ∧ Holds w' R L := by
  by_cases h0 : k < 1
  · have t0 : decide (k < 1) = true := by simpa using h0
    go_enter Try.func78, Try.ntmps78
    go_wp2_with fail
    go_ret
    exact ⟨ret_int (by unfold roleI; rw [if_neg (by omega), if_neg (by omega), if_neg (by omega)]), H⟩
  have t0 : decide (k < 1) = false := by simpa using h0
  by_cases h6 : 5 < k
  · have t6 : decide (5 < k) = true := by simpa using h6
    go_enter Try.func78, Try.ntmps78
    go_wp2_with fail
    go_ret
    exact ⟨ret_int (by unfold roleI; rw [if_neg (by omega), if_neg (by omega), if_neg (by omega)]), H⟩
  clear t0
  rcases (show k = 1 ∨ k = 2 ∨ k = 3 ∨ k = 4 ∨ k = 5 by omega) with rfl | rfl | rfl | rfl | rfl
  all_goals
    go_enter Try.func78, Try.ntmps78
    go_wp2_with fail
    go_ret
    exact ⟨rfl, H.garbage _⟩
theorem recRight_spec {w : World} {R : Snap} {L : Asrt} (r : Rc) (H : Holds w R L) (hr : r.Rd R.cell?) (hz : r.Sz) :
    Calls Try.prog 76 #[.agg r.cells.toArray] w fun e w' => e = .returned (.bool (rcOk r)) ∧ Holds w' R L := by
  obtain ⟨x, hx⟩ : ∃ x, x = rcOk r := ⟨_, rfl⟩
  rw [← hx]
  obtain ⟨kind, name, attempt, epoch, mark, size, vs, share⟩ := r
  obtain ⟨z1, z2⟩ := hz
  have hs := hr
  simp only [Rc.Rd] at z1 z2 hs
  obtain ⟨as_, cs_, rfl⟩ := hs.form
  have HX := Hid.mk' hx
  have hR := right_spec z1
  obtain ⟨n, hn⟩ : ∃ n, n = share.length := ⟨_, rfl⟩
  have HN := Hid.mk' hn
  obtain ⟨R1, le1, H1, hb⟩ := H.allocR (.cells #[.int .i64 kind, .string name, .int .i64 attempt, .int .i64 epoch, .int .i64 mark, .int .i64 size, .slice as_ share.length cs_] tRec (0, 0))
  simp only [← hn] at hb H1
  show Calls _ _ #[.agg #[.int .i64 kind, .string name, .int .i64 attempt, .int .i64 epoch, .int .i64 mark, .int .i64 size, .slice as_ share.length cs_]] _ _
  simp only [← hn]
  have z3 : n ≤ 1000000 := by omega
  obtain ⟨l1, n1, c1⟩ := Holds.frzFacts (H1) hb
  replace H1 := H1.weaken le1
  clear hs hx H hb z1 z2 hn hr le1
  go_enter Try.func76, Try.ntmps76
  go_wp2_with fail
  refine (hR _).mono ?_
  rintro e w1 ⟨rfl, rfl⟩
  clear hR
  cases h1 : nameOk name with
  | false =>
    go_wp2_with fail
    go_ret
    exact ⟨ret_bool (HX.out.trans (by simp [rcOk, h1])).symm, H1⟩
  | true =>
  have K1 := Hid.mk' h1
  clear h1
  go_wp2_with fail
  refine (number_spec _ _).mono ?_
  rintro e w1 ⟨rfl, rfl⟩
  cases h1 : inOne 4294967295 attempt with
  | false =>
    go_wp2_with fail
    go_ret
    exact ⟨ret_bool (HX.out.trans (by simp [rcOk, inAll, h1])).symm, H1⟩
  | true =>
  have K2 := Hid.mk' h1
  clear h1
  go_wp2_with fail
  refine (number_spec _ _).mono ?_
  rintro e w1 ⟨rfl, rfl⟩
  cases h1 : inOne 4294967295 epoch with
  | false =>
    go_wp2_with fail
    go_ret
    exact ⟨ret_bool (HX.out.trans (by simp [rcOk, inAll, h1])).symm, H1⟩
  | true =>
  have K3 := Hid.mk' h1
  clear h1
  go_wp2_with fail
  refine (number_spec _ _).mono ?_
  rintro e w1 ⟨rfl, rfl⟩
  cases h1 : inOne 4294967295 mark with
  | false =>
    go_wp2_with fail
    go_ret
    exact ⟨ret_bool (HX.out.trans (by simp [rcOk, inAll, h1])).symm, H1⟩
  | true =>
  have K4 := Hid.mk' h1
  clear h1
  by_cases h1 : size < 0
  · have t1 : decide (size < 0) = true := by simpa using h1
    go_wp2_with fail
    go_ret
    exact ⟨ret_bool (HX.out.trans (by simp [rcOk, inAll, inOne]; omega)).symm, H1⟩
  have t1 : decide (size < 0) = false := by simpa using h1
  by_cases h2 : 240 < size
  · have t2 : decide (240 < size) = true := by simpa using h2
    go_wp2_with fail
    go_ret
    exact ⟨ret_bool (HX.out.trans (by simp [rcOk, inAll, inOne]; omega)).symm, H1⟩
  have t2 : decide (240 < size) = false := by simpa using h2
  by_cases h3 : 240 < n
  · have t3 : decide ((240 : Int) < (n : Int)) = true := by simp; omega
    go_wp2_with fail
    go_ret
    exact ⟨ret_bool (HX.out.trans (by have := HN.out; simp [rcOk, inAll, inOne]; omega)).symm, H1⟩
  have t3 : decide ((240 : Int) < (n : Int)) = false := by simp; omega
  go_upto_region 3 with fail
  have b1 : 0 ≤ attempt ∧ attempt ≤ 4294967295 := by have := K2.out; simpa [inOne] using this
  have b2 : 0 ≤ epoch ∧ epoch ≤ 4294967295 := by have := K3.out; simpa [inOne] using this
  have b3 : 0 ≤ mark ∧ mark ≤ 4294967295 := by have := K4.out; simpa [inOne] using this
  obtain ⟨b1, b1'⟩ := b1
  obtain ⟨b2, b2'⟩ := b2
  obtain ⟨b3, b3'⟩ := b3
  have hxx : x = rcKind (⟨kind, name, attempt, epoch, mark, size, .slice as_ share.length cs_, share⟩ : Rc) := by
    rw [HX.out, rcOk]
    have e1 : inAll 4294967295 [attempt, epoch, mark] = true := by simp [inAll, K2.out, K3.out, K4.out]
    have e2 : inAll 240 [size, (share.length : Int)] = true := by have := HN.out; simp [inAll, inOne]; omega
    simp only [K1.out, e1, e2, Bool.true_and]
  replace HX := Hid.mk' hxx
  clear hxx
  clear t1 t2 t3
  by_cases k1 : kind = 1
  · subst k1
    by_cases a1 : 0 < attempt
    · have t1 : decide (0 < attempt) = true := by simpa using a1
      have A1 := Hid.mk' a1
      clear a1
      by_cases a2 : epoch = attempt
      · subst a2
        by_cases a3 : mark = 0
        · subst a3
          go_wp2_with fail
          go_ret
          exact ⟨ret_bool (HX.out.trans (by (have hnn := HN.out); (try have h1 := A1.out); (try have h2 := A2.out); (try have h3 := A3.out); (try have h4 := A4.out); (try have h5 := A5.out); (try have h6 := HAL.out); simp only [rcKind, rcAll]; simp [-List.length_eq_zero_iff] <;> omega)).symm, H1⟩
        · have t3 : (mark == 0) = false := by simpa using a3
          have A3 := Hid.mk' a3
          clear a3
          go_wp2_with fail
          go_ret
          exact ⟨ret_bool (HX.out.trans (by (have hnn := HN.out); (try have h1 := A1.out); (try have h2 := A2.out); (try have h3 := A3.out); (try have h4 := A4.out); (try have h5 := A5.out); (try have h6 := HAL.out); simp only [rcKind, rcAll]; simp [-List.length_eq_zero_iff] <;> omega)).symm, H1⟩
      · have t2 : (epoch == attempt) = false := by simpa using a2
        have A2 := Hid.mk' a2
        clear a2
        go_wp2_with fail
        go_ret
        exact ⟨ret_bool (HX.out.trans (by (have hnn := HN.out); (try have h1 := A1.out); (try have h2 := A2.out); (try have h3 := A3.out); (try have h4 := A4.out); (try have h5 := A5.out); (try have h6 := HAL.out); simp only [rcKind, rcAll]; simp [-List.length_eq_zero_iff] <;> omega)).symm, H1⟩
    · have t1 : decide (0 < attempt) = false := by simpa using a1
      have A1 := Hid.mk' a1
      clear a1
      go_wp2_with fail
      go_ret
      exact ⟨ret_bool (HX.out.trans (by (have hnn := HN.out); (try have h1 := A1.out); (try have h2 := A2.out); (try have h3 := A3.out); (try have h4 := A4.out); (try have h5 := A5.out); (try have h6 := HAL.out); simp only [rcKind, rcAll]; simp [-List.length_eq_zero_iff] <;> omega)).symm, H1⟩
  have q1 : (kind == 1) = false := by simpa using k1
  by_cases k4 : kind = 4
  · subst k4
    clear q1 k1
    by_cases a1 : 0 < mark
    · have t1 : decide (0 < mark) = true := by simpa using a1
      have A1 := Hid.mk' a1
      clear a1
      obtain ⟨s1, hs1⟩ : ∃ s1, s1 = attempt + epoch := ⟨_, rfl⟩
      obtain ⟨s2, hs2⟩ : ∃ s2, s2 = s1 + size := ⟨_, rfl⟩
      obtain ⟨s3, hs3⟩ : ∃ s3, s3 = s2 + (n : Int) := ⟨_, rfl⟩
      have e1 : IntKind.i64.wrap (attempt + epoch) = s1 := by rw [hs1]; exact IntWalk.i64_in _ (by omega)
      have e2 : IntKind.i64.wrap (s1 + size) = s2 := by rw [hs2]; exact IntWalk.i64_in _ (by omega)
      have e3 : IntKind.i64.wrap (s2 + (n : Int)) = s3 := by rw [hs3]; exact IntWalk.i64_in _ (by omega)
      have A5 := Hid.mk' (show s3 = attempt + epoch + size + (n : Int) by omega)
      have f1 : wrap64 (attempt + epoch) = s1 := by rw [hs1]; exact IntWalk.wrap64_in _ (by omega)
      have f2 : wrap64 (s1 + size) = s2 := by rw [hs2]; exact IntWalk.wrap64_in _ (by omega)
      have f3 : wrap64 (s2 + (n : Int)) = s3 := by rw [hs3]; exact IntWalk.wrap64_in _ (by omega)
      have A6 := Hid.mk' (And.intro hs1 (And.intro hs2 hs3))
      by_cases a2 : s3 = 0
      · have t2 : (s3 == 0) = true := by simpa using a2
        have A2 := Hid.mk' a2
        clear a2
        clear hs1 hs2 hs3
        go_wp2_with fail
        go_ret
        exact ⟨ret_bool (HX.out.trans (by (have hnn := HN.out); (try have h1 := A1.out); (try have h2 := A2.out); (try have h3 := A3.out); (try have h4 := A4.out); (try have h5 := A5.out); (try have h6 := HAL.out); simp only [rcKind, rcAll]; simp [-List.length_eq_zero_iff] <;> omega)).symm, H1⟩
      · have t2 : (s3 == 0) = false := by simpa using a2
        have A2 := Hid.mk' a2
        clear a2
        clear hs1 hs2 hs3
        go_wp2_with fail
        go_ret
        exact ⟨ret_bool (HX.out.trans (by (have hnn := HN.out); (try have h1 := A1.out); (try have h2 := A2.out); (try have h3 := A3.out); (try have h4 := A4.out); (try have h5 := A5.out); (try have h6 := HAL.out); simp only [rcKind, rcAll]; simp [-List.length_eq_zero_iff] <;> omega)).symm, H1⟩
    · have t1 : decide (0 < mark) = false := by simpa using a1
      have A1 := Hid.mk' a1
      clear a1
      go_wp2_with fail
      go_ret
      exact ⟨ret_bool (HX.out.trans (by (have hnn := HN.out); (try have h1 := A1.out); (try have h2 := A2.out); (try have h3 := A3.out); (try have h4 := A4.out); (try have h5 := A5.out); (try have h6 := HAL.out); simp only [rcKind, rcAll]; simp [-List.length_eq_zero_iff] <;> omega)).symm, H1⟩
  have q4 : (kind == 4) = false := by simpa using k4
  have fin : ∀ y : Bool, y = rcAll (⟨kind, name, attempt, epoch, mark, size, .slice as_ share.length cs_, share⟩ : Rc) → (kind = 2 ∨ kind = 5 ∨ (kind = 3 ∧ n = 0)) → y = x := by
    intro y hy hk
    rw [HX.out, hy, rcKind, if_neg k1]
    have := HN.out
    rcases hk with h | h | ⟨h, h'⟩
    · rw [if_pos (.inl h)]
    · rw [if_pos (.inr h)]
    · rw [if_neg (by simp only; omega), if_pos h, decide_eq_true (by simp only; omega), Bool.and_true]
  have FIN := Hid.mk' fin
  clear fin
  by_cases k3 : kind = 3
  · subst k3
    clear k1 q1 k4 q4
    by_cases hn0 : n = 0
    · subst hn0
      have HN0 := Hid.mk' (rfl : 0 = 0)
      by_cases a1 : 0 < attempt
      · have t1 : decide (0 < attempt) = true := by simpa using a1
        have A1 := Hid.mk' a1
        clear a1
        by_cases a2 : 0 < epoch
        · have t2 : decide (0 < epoch) = true := by simpa using a2
          have A2 := Hid.mk' a2
          clear a2
          by_cases a3 : 0 < mark
          · have t3 : decide (0 < mark) = true := by simpa using a3
            have A3 := Hid.mk' a3
            clear a3
            go_wp2_with fail
            go_ret
            exact ⟨ret_bool (FIN.out _ (by (try have h1 := A1.out); (try have h2 := A2.out); (try have h3 := A3.out); simp only [rcAll]; simp <;> omega) (by first | trivial | exact HN0.out | simp [HN0.out] | simp)), H1⟩
          · have t3 : decide (0 < mark) = false := by simpa using a3
            have A3 := Hid.mk' a3
            clear a3
            go_wp2_with fail
            go_ret
            exact ⟨ret_bool (FIN.out _ (by (try have h1 := A1.out); (try have h2 := A2.out); (try have h3 := A3.out); simp only [rcAll]; simp <;> omega) (by first | trivial | exact HN0.out | simp [HN0.out] | simp)), H1⟩
        · have t2 : decide (0 < epoch) = false := by simpa using a2
          have A2 := Hid.mk' a2
          clear a2
          go_wp2_with fail
          go_ret
          exact ⟨ret_bool (FIN.out _ (by (try have h1 := A1.out); (try have h2 := A2.out); (try have h3 := A3.out); simp only [rcAll]; simp <;> omega) (by first | trivial | exact HN0.out | simp [HN0.out] | simp)), H1⟩
      · have t1 : decide (0 < attempt) = false := by simpa using a1
        have A1 := Hid.mk' a1
        clear a1
        go_wp2_with fail
        go_ret
        exact ⟨ret_bool (FIN.out _ (by (try have h1 := A1.out); (try have h2 := A2.out); (try have h3 := A3.out); simp only [rcAll]; simp <;> omega) (by first | trivial | exact HN0.out | simp [HN0.out] | simp)), H1⟩
    · have t0 : decide ((0 : Int) < (n : Int)) = true := by simp; omega
      have t1 : 0 < n := by omega
      have A1 := Hid.mk' hn0
      clear hn0
      go_wp2_with fail
      go_ret
      exact ⟨ret_bool (HX.out.trans (by (have hnn := HN.out); (try have h1 := A1.out); (try have h2 := A2.out); (try have h3 := A3.out); (try have h4 := A4.out); (try have h5 := A5.out); (try have h6 := HAL.out); simp only [rcKind, rcAll]; simp [-List.length_eq_zero_iff] <;> omega)).symm, H1⟩
  have q3 : (kind == 3) = false := by simpa using k3
  by_cases k2 : kind = 2
  · subst k2
    clear k1 q1 k4 q4 k3 q3
    by_cases a1 : 0 < attempt
    · have t1 : decide (0 < attempt) = true := by simpa using a1
      have A1 := Hid.mk' a1
      clear a1
      by_cases a2 : 0 < epoch
      · have t2 : decide (0 < epoch) = true := by simpa using a2
        have A2 := Hid.mk' a2
        clear a2
        by_cases a3 : 0 < mark
        · have t3 : decide (0 < mark) = true := by simpa using a3
          have A3 := Hid.mk' a3
          clear a3
          go_wp2_with fail
          go_ret
          exact ⟨ret_bool (FIN.out _ (by (try have h1 := A1.out); (try have h2 := A2.out); (try have h3 := A3.out); simp only [rcAll]; simp <;> omega) (by first | trivial | exact HN0.out | simp [HN0.out] | simp)), H1⟩
        · have t3 : decide (0 < mark) = false := by simpa using a3
          have A3 := Hid.mk' a3
          clear a3
          go_wp2_with fail
          go_ret
          exact ⟨ret_bool (FIN.out _ (by (try have h1 := A1.out); (try have h2 := A2.out); (try have h3 := A3.out); simp only [rcAll]; simp <;> omega) (by first | trivial | exact HN0.out | simp [HN0.out] | simp)), H1⟩
      · have t2 : decide (0 < epoch) = false := by simpa using a2
        have A2 := Hid.mk' a2
        clear a2
        go_wp2_with fail
        go_ret
        exact ⟨ret_bool (FIN.out _ (by (try have h1 := A1.out); (try have h2 := A2.out); (try have h3 := A3.out); simp only [rcAll]; simp <;> omega) (by first | trivial | exact HN0.out | simp [HN0.out] | simp)), H1⟩
    · have t1 : decide (0 < attempt) = false := by simpa using a1
      have A1 := Hid.mk' a1
      clear a1
      go_wp2_with fail
      go_ret
      exact ⟨ret_bool (FIN.out _ (by (try have h1 := A1.out); (try have h2 := A2.out); (try have h3 := A3.out); simp only [rcAll]; simp <;> omega) (by first | trivial | exact HN0.out | simp [HN0.out] | simp)), H1⟩
  have q2 : (kind == 2) = false := by simpa using k2
  by_cases k5 : kind = 5
  · subst k5
    clear k1 q1 k4 q4 k3 q3 k2 q2
    by_cases a1 : 0 < attempt
    · have t1 : decide (0 < attempt) = true := by simpa using a1
      have A1 := Hid.mk' a1
      clear a1
      by_cases a2 : 0 < epoch
      · have t2 : decide (0 < epoch) = true := by simpa using a2
        have A2 := Hid.mk' a2
        clear a2
        by_cases a3 : 0 < mark
        · have t3 : decide (0 < mark) = true := by simpa using a3
          have A3 := Hid.mk' a3
          clear a3
          go_wp2_with fail
          go_ret
          exact ⟨ret_bool (FIN.out _ (by (try have h1 := A1.out); (try have h2 := A2.out); (try have h3 := A3.out); simp only [rcAll]; simp <;> omega) (by first | trivial | exact HN0.out | simp [HN0.out] | simp)), H1⟩
        · have t3 : decide (0 < mark) = false := by simpa using a3
          have A3 := Hid.mk' a3
          clear a3
          go_wp2_with fail
          go_ret
          exact ⟨ret_bool (FIN.out _ (by (try have h1 := A1.out); (try have h2 := A2.out); (try have h3 := A3.out); simp only [rcAll]; simp <;> omega) (by first | trivial | exact HN0.out | simp [HN0.out] | simp)), H1⟩
      · have t2 : decide (0 < epoch) = false := by simpa using a2
        have A2 := Hid.mk' a2
        clear a2
        go_wp2_with fail
        go_ret
        exact ⟨ret_bool (FIN.out _ (by (try have h1 := A1.out); (try have h2 := A2.out); (try have h3 := A3.out); simp only [rcAll]; simp <;> omega) (by first | trivial | exact HN0.out | simp [HN0.out] | simp)), H1⟩
    · have t1 : decide (0 < attempt) = false := by simpa using a1
      have A1 := Hid.mk' a1
      clear a1
      go_wp2_with fail
      go_ret
      exact ⟨ret_bool (FIN.out _ (by (try have h1 := A1.out); (try have h2 := A2.out); (try have h3 := A3.out); simp only [rcAll]; simp <;> omega) (by first | trivial | exact HN0.out | simp [HN0.out] | simp)), H1⟩
  have q5 : (kind == 5) = false := by simpa using k5
  have A1 := Hid.mk' (show ¬ kind = 1 ∧ ¬ kind = 2 ∧ ¬ kind = 3 ∧ ¬ kind = 4 ∧ ¬ kind = 5 from ⟨k1, k2, k3, k4, k5⟩)
  clear k1 k2 k3 k4 k5
  go_wp2_with fail
  go_ret
  obtain ⟨k1, k2, k3, k4, k5⟩ := A1.out
  exact ⟨ret_bool (HX.out.trans (by simp [rcKind, k1, k2, k3, k4, k5])).symm, H1⟩
end Sh
/- record.pieces: what its function value does, for every body. -/
set_option linter.unusedVariables false
set_option linter.unusedSimpArgs false
namespace Sh
open Go Go.RowKit Go.Proofs
attribute [local go_sem ↓] Go.wp_at_zero Go.wp_at_succ
set_option maxHeartbeats 1000000
set_option maxRecDepth 100000
attribute [local go_sem] Oper.semAt_some

/-- The part of so many bytes that comes i-th. -/
def pieceV (b o N c i : Nat) : Value := .slice (some ⟨b, o + i * 48, none⟩) (min ((i + 1) * 48) N - i * 48) (c - i * 48)
theorem recPieces_in (n : Nat) (hn : 1 ≤ n) (l g N c b0 o0 : Nat) (a : Option Addr) (ha : 0 < N → a = some ⟨b0, o0, none⟩) (hN : N ≤ 100000) (hc : N ≤ c) (hc9 : c ≤ maxLen) (J Jx : List (Fin (bodiesN N)) → World → Prop)
    (hY : ∀ pre x W, J pre W → pre.length < bodiesN N → YieldAt Fence.wide (n - 1) Try.prog l #[.int .i64 (x.1 : Nat), pieceV b0 o0 N c x.1] W fun e W' =>
      (e = .returned (.bool true) ∧ J (pre ++ [x]) W' ∧ W'.heap[g]? = W.heap[g]?) ∨ (e = .returned (.bool false) ∧ Jx (pre ++ [x]) W'))
    (W : World) (hg : W.heap[g]? = some (.cells #[.slice a N c] tBytes (0, 0))) (h0 : J [] W) :
    CallsIn Fence.wide n Try.prog 193 #[.func (.yield l) #[] #[], .pointer (some ⟨g, 0, none⟩)] W fun e W' => (∃ v, e = .returned v) ∧
      ((∃ ys, ys = List.finRange (bodiesN N) ∧ J ys W') ∨ (∃ pre, True ∧ Jx pre W')) := by
  have hgc : ∀ W' : World, W'.heap[g]? = some (.cells #[.slice a N c] tBytes (0, 0)) → ∀ o, W'.cell? ⟨g, o, none⟩ = #[Value.slice a N c][o]? := fun W' h o => by unfold World.cell?; rw [h]; rfl
  have HG := Hid.mk' hg
  have k0 := hgc W hg
  clear hg
  refine callsIn_of_wp Try.func193 rfl trivial ?_ rfl
  simp only [Try.ntmps193, List.size_toArray, List.length_cons, List.length_nil, Nat.reduceAdd, Nat.reduceSub, Array.replicate_succ, Array.replicate_zero, List.push_toArray, List.append_toArray, List.nil_append, List.cons_append]
  gi_wp2_with (refine ⟨trivial, ?_⟩; gi_at_call 157; refine (callsIn_wide.2 (bodies_spec N (by omega) _)).mono ?_; rintro e w' ⟨rfl, rfl⟩)
  have hM : 48 * bodiesN N < N + 48 ∧ N ≤ 48 * bodiesN N := by unfold bodiesN; omega
  obtain ⟨hM1, hM2⟩ := hM
  have upk : ∀ k (h : k < bodiesN N), (List.finRange (bodiesN N)).take (k + 1) = (List.finRange (bodiesN N)).take k ++ [⟨k, h⟩] := fun k h => by
    rw [List.take_succ_eq_append_getElem (by rw [List.length_finRange]; exact h)]
    simp
  have UPK := Hid.mk' upk
  have upl : ∀ k, k ≤ bodiesN N → ((List.finRange (bodiesN N)).take k).length = k := fun k h => by
    rw [List.length_take, List.length_finRange]; omega
  have UPL := Hid.mk' upl
  obtain ⟨M, hMM⟩ : ∃ M, M = bodiesN N := ⟨_, rfl⟩
  have HA := Hid.mk' ha
  have HGC := Hid.mk' hgc
  have HY := Hid.mk' hY
  have HMM := Hid.mk' hMM
  rw [← hMM] at hM1 hM2
  clear ha hgc hY upk upl hMM
  simp only [← HMM.out]
  gi_loopw [7] (fun i wr => ∃ k : Nat, k ≤ M ∧ i = .int .i64 k ∧ J ((List.finRange (bodiesN N)).take k) wr ∧ wr.heap[g]? = some (.cells #[.slice a N c] tBytes (0, 0))) (fun i _ => M - (intOf i).toNat)
  case atStart => exact ⟨0, Nat.zero_le _, rfl, h0, HG.out⟩
  case round =>
    clear h0 k0
    obtain ⟨k, hk, rfl, hJs, hgw⟩ := hrel
    by_cases hlt : k < M
    · have d1 : decide ((k : Int) < (M : Int)) = true := by simp; omega
      have hlt' : k < bodiesN N := by rw [← HMM.out]; exact hlt
      obtain ⟨fn, tmps, assign, body, hy, hR⟩ := HY.out _ ⟨k, hlt'⟩ wr hJs (by rw [UPL.out k (by omega)]; exact hlt')
      obtain rfl := HA.out (by omega)
      have kc := HGC.out wr hgw
      have e : pieceV b0 o0 N c k = .slice (some ⟨b0, o0 + k * 48, none⟩) ((min (((k : Int) + 1) * 48) (N : Int)).toNat - k * 48) (c - k * 48) := by
        unfold pieceV
        rw [show (min (((k : Int) + 1) * 48) (N : Int)).toNat = min ((k + 1) * 48) N by omega]
      dsimp only at hy
      rw [e] at hy
      clear e
      gi_wp2
      refine hR.mono ?_
      rintro e W3 (⟨rfl, hJ3, hk3⟩ | ⟨rfl, hJx3⟩)
      · gi_wp2
        go_roundw
        case rel => exact ⟨k + 1, hlt, by go_num, by rw [UPK.out k hlt']; exact hJ3, hk3.trans hgw⟩
        case measure => simp [intOf]; omega
      · gi_wp2
        refine bodyPost_ret (results_none rfl _ _ _) rfl ?_
        exact ⟨⟨_, rfl⟩, .inr ⟨_, trivial, hJx3⟩⟩
    · have d1 : decide ((k : Int) < (M : Int)) = false := by simp; omega
      gi_wp2
      go_end0
      refine ⟨⟨_, rfl⟩, .inl ⟨_, rfl, ?_⟩⟩
      rw [List.take_of_length_le (by rw [List.length_finRange, ← HMM.out]; omega)] at hJs
      exact hJs
theorem recPieces_stops (n : Nat) (hn : 1 ≤ n) (g N c b0 o0 : Nat) (a : Option Addr) (ha : 0 < N → a = some ⟨b0, o0, none⟩) (hN : N ≤ 100000) (hc : N ≤ c) (hc9 : c ≤ maxLen) (w : World) (hg : w.heap[g]? = some (.cells #[.slice a N c] tBytes (0, 0))) :
    SeqStopsK Fence.wide n Try.prog 193 #[.pointer (some ⟨g, 0, none⟩)] (fun x : Fin (bodiesN N) => #[.int .i64 (x.1 : Nat), pieceV b0 o0 N c x.1]) (fun W W' => W'.heap[g]? = W.heap[g]?) (fun ys => ys = List.finRange (bodiesN N)) (fun _ => True) (bodiesN N) w := fun l J Jx W hW _ _ hY h0 =>
  recPieces_in n hn l g N c b0 o0 a ha hN hc hc9 J Jx hY W ((hW.block g (Array.getElem?_eq_some_iff.1 hg).1).trans hg) h0
theorem recPieces_spec (a : Option Addr) (N c : Nat) (w : World) : Calls Try.prog 155 #[.slice a N c] w fun e w' => e = .returned (.func (.func 193) #[] #[.pointer (some ⟨w.heap.size, 0, none⟩)]) ∧ w' = w.alloc (.cells #[.slice a N c] tBytes) := by
  go_enter Try.func155, Try.ntmps155
  go_wp2_with fail
  go_ret
  exact ⟨rfl, rfl⟩
end Sh
/- sector's contracts: Seal, Open, Clear. -/
set_option linter.unusedVariables false
set_option linter.unusedSimpArgs false
namespace Sh
open Go Go.RowKit Go.Proofs
attribute [local go_sem ↓] Go.wp_at_zero Go.wp_at_succ
set_option maxHeartbeats 1000000
set_option maxRecDepth 100000

theorem stop_load {P : Program} {ops : Array Oper} {Q : Exit → Act → World → Prop} {d : Option Tmp} {x : Operand} {t ty : TypeId} {pos : String} {af : Array Edge} {g : Option (Nat × Bool)} {rest : List Oper} {a : Act} {w : World}
    (h : Hold (wpList P ops Q (⟨d, .load t x, ty, pos, af, g⟩ :: rest) a w)) : wpList P ops Q (⟨d, .load t x, ty, pos, af, g⟩ :: rest) a w := h
theorem wpList_wanted {P : Program} {ops : Array Oper} {Q : Exit → Act → World → Prop} {o : Oper} {rest : List Oper} {a : Act} {w : World} (hw : Region.wanted o (yielded ops a.tmps) = true)
    (h : ∀ K : Act → World → Prop, (∀ a w, wpList P ops Q rest a w → K a w) → o.wp P a w K Q) : wpList P ops Q (o :: rest) a w :=
  wpList_step fun K hK => by rw [if_pos hw]; exact h K hK
theorem wp_copy_own {P : Program} {w : World} {o : Oper} {a : Act} {K : Act → World → Prop} {Q : Exit → Act → World → Prop} (d s : Operand) (dT sT : TypeId)
    (ho : o.op = .call { callee := .builtin .copy, args := #[d, s], argTypes := #[dT, sT] }) (elem : TypeId) (hu : P.underlying dT = some (.slice elem)) (hsz : (P.info? elem).map (·.size) = some 1)
    (g off dLen dCap : Nat) (ad : Addr) (sLen sCap : Nat) (hd : a.eval d = .slice (some ⟨g, off, none⟩) dLen dCap) (hs : a.eval s = .slice (some ad) sLen sCap)
    (cur : Array Value) (t : TypeId) (hg : w.heap[g]? = some (.cells cur t (0, 0))) (cs : List Value) (hn : cs.length = Nat.min sLen dLen)
    (hsrc : ∀ j v, cs[j]? = some v → w.cell? (ad.add j) = some v) (hfit : off + cs.length ≤ cur.size) (h1 : ∀ v ∈ cs, v.oneCell' = true)
    (h : K (a.put o.dst (goInt cs.length)) (w.setRow g (cur.toList.take off ++ (cs ++ cur.toList.drop (off + cs.length))).toArray)) : o.wp P a w K Q := by
  have hrun := run_copy_row (P := P) w dT sT o.type elem g off dLen dCap ad sLen sCap cur t cs hu hsz hg hn hsrc hfit h1
  unfold Oper.wp
  simp [execOp, ho, resolve, invoke, builtin, hd, hs, hrun, Result.andThen]
  exact h
theorem Holds.blkAll {w : World} {R : Snap} {L : Asrt} {b : Nat} {cs cs2 : Array Value} {t : TypeId} (H : Holds w R (star (Sh.blk b cs t) L)) : Holds (w.setRow b cs2) R (star (Sh.blk b cs2 t) L) := by
  obtain ⟨F, ⟨hF, hF'⟩, k⟩ := H.upd
  exact k _ _ F ⟨setRow_heap w b cs cs2 t _ hF, hF'⟩ rfl rfl rfl (fun i hi hn => setRow_other w b i cs2 (fun h => hn ((hF' i).2 h))) (fun i hi => .inl hi)

theorem stop_eqlArr {P : Program} {ops : Array Oper} {Q : Exit → Act → World → Prop} {d : Option Tmp} {x y : Operand} {t2 ty : TypeId} {pos : String} {af : Array Edge} {g : Option (Nat × Bool)} {rest : List Oper} {a : Act} {w : World}
    (h : Hold (wpList P ops Q (⟨d, .binOp .eql 214 x y t2, ty, pos, af, g⟩ :: rest) a w)) : wpList P ops Q (⟨d, .binOp .eql 214 x y t2, ty, pos, af, g⟩ :: rest) a w := h
abbrev tSec : TypeId := 214
theorem wp_eqlArr {w : World} {o : Oper} {a : Act} {K : Act → World → Prop} {Q : Exit → Act → World → Prop} (x y : Operand) (t2 : TypeId) (ho : o.op = .binOp .eql tSec x y t2) (l k : List UInt8) (hl : l.length = 64) (hk : k.length = 64)
    (hx : a.eval x = .agg (u8s l).toArray) (hy : a.eval y = .agg (u8s k).toArray) (h : K (a.put o.dst (.bool (l == k))) w) : o.wp Try.prog a w K Q := by
  have h1 := run_eql_bytes (P := Try.prog) w tSec tU8 64 Try.underlying214 Try.underlying5 (fun w => by kernel_rfl) l k hl hk
  have h2 := run_eqGuard_agg (P := Try.prog) w .eql tSec x y (u8s l).toArray (u8s k).toArray Try.eqGuardType214
  have e : ∀ l : List UInt8, l.map Extern.Stop.cell = u8s l := fun l => rfl
  rw [e, e] at h1
  unfold Oper.wp execOp
  simp only [ho, hx, hy, Sem.run_bind, h2, h1, Result.andThen_ok]
  exact h
def clearB (b : List UInt8) : Bool := decide (b = List.replicate 64 0)
theorem sclear_spec {w : World} {R : Snap} {L : Asrt} {v : Value} {b : List UInt8} (H : Holds w R L) (hr : RdB w.cell? v b) :
    Calls Try.prog 170 #[v] w fun e w' => e = .returned (.bool (clearB b)) ∧ Holds w' R L := by
  obtain ⟨a, c, rfl⟩ := hr.form
  by_cases h64 : b.length = 64
  · have t1 : ((b.length : Int) == 64) = true := by simp [h64]
    go_enter Try.func170, Try.ntmps170
    go_wp2_with (first | (with_reducible refine stop_copy ?_) | (with_reducible refine stop_load ?_))
    generalize hw1 : World.alloc w _ = w1
    have H1 : Holds w1 R (star (blk w.heap.size (u8s (List.replicate 64 0)).toArray tSec) L) := by rw [← hw1]; exact H.alloc (u8s (List.replicate 64 0)).toArray tSec
    have hr1 : RdB w1.cell? (.slice a b.length c) b := by rw [← hw1]; exact hr.below ((Below.refl w.heap.size w).alloc (Nat.le_refl _) _)
    obtain ⟨b1, o1, rfl, hc⟩ := RdB.open hr1 (by omega)
    generalize w.heap.size = g at H1 ⊢
    clear hw1 hr1 hr H
    refine Hold.go (wpList_wanted (by rfl) fun K hK => wp_copy_own _ _ _ _ rfl tU8 undBytes sizeU8 g 0 64 64 ⟨b1, o1, none⟩ _ _ rfl rfl _ tSec H1.blkAt (u8s b) (by rw [u8s_length, h64]; rfl) ?_ (by rw [u8s_length, h64]; decide) (u8s_one _) ?_)
    · intro j x hx
      rw [add_plain]
      have hj : j < b.length := by
        have := (List.getElem?_eq_some_iff.1 hx).1
        rwa [u8s_length] at this
      rw [u8s_get _ _ hj, Option.some.injEq] at hx
      subst hx
      exact hc j hj
    · refine hK _ _ ?_
      have H2 := H1.blkAll (cs2 := ((u8s (List.replicate 64 0)).toArray.toList.take 0 ++ (u8s b ++ (u8s (List.replicate 64 0)).toArray.toList.drop (0 + (u8s b).length))).toArray)
      rw [show ((u8s (List.replicate 64 0)).toArray.toList.take 0 ++ (u8s b ++ (u8s (List.replicate 64 0)).toArray.toList.drop (0 + (u8s b).length))) = u8s b from by rw [List.take_zero, List.nil_append, List.drop_of_length_le (by simp [h64]), List.append_nil]] at H2 ⊢
      generalize World.setRow .. = w2 at H2 ⊢
      have e3 : (goInt (u8s b).length) = .int .i64 64 := by rw [u8s_length, h64]; rfl
      rw [e3]
      go_wp2_with (with_reducible refine stop_load ?_)
      refine Hold.go (wpList_wanted (by rfl) fun K hK => wp_load_row tSec _ rfl g rfl tSec _ (0, 0) _ H2.blkAt Try.underlying214 rfl (by rw [List.size_toArray, u8s_length, h64]; kernel_rfl) (hK _ _ ?_))
      clear hc H1
      go_wp2_with (with_reducible refine stop_eqlArr ?_)
      refine Hold.go (wpList_wanted (by rfl) fun K hK => wp_eqlArr _ _ _ rfl b (List.replicate 64 0) h64 (by simp) rfl rfl (hK _ _ ?_))
      go_wp2_with fail
      go_ret
      exact ⟨ret_bool (by rw [clearB, Bool.eq_iff_iff]; simp), H2.drop⟩
  · have t1 : ((b.length : Int) == 64) = false := by simp; omega
    have e1 : clearB b = false := by
      rw [clearB, decide_eq_false_iff_not]
      intro h; rw [h] at h64; simp at h64
    rw [e1]
    clear e1
    go_enter Try.func170, Try.ntmps170
    go_wp2_with fail
    go_ret
    exact ⟨rfl, H.garbage _⟩

def padTo60 (p : List UInt8) : List UInt8 := p.take 60 ++ (List.replicate 60 0).drop p.length
def sealS (p : List UInt8) : List UInt8 := if p.length ≤ 60 then sealB (padTo60 p) else []
theorem padTo60_len {p : List UInt8} (h : p.length ≤ 60) : (padTo60 p).length = 60 := by simp [padTo60]; omega
theorem sealS_len {p : List UInt8} (h : p.length ≤ 60) : (sealS p).length = 64 := by simp [sealS, h, sealB, padTo60_len h, fourB_length]
theorem sealS_len_le (p : List UInt8) : (sealS p).length ≤ 64 := by
  by_cases h : p.length ≤ 60
  · rw [sealS_len h]; decide
  · simp [sealS, h]
theorem sseal_spec {w : World} {R : Snap} {L : Asrt} {pt : Nat} {v : Value} {p : List UInt8} (H : Holds w R L) (hT : R.blk pt = some (.cells (rowC 256) tabT (0, 0))) (hr : RdB R.cell? v p) :
    Calls Try.prog 142 #[.pointer (some ⟨pt, 0, none⟩), v] w fun e w' => ∃ o, e = .returned o ∧ Holds w' R (star (rowB o (sealS p)) L) := by
  have hr0 := hr
  obtain ⟨a, c, rfl⟩ := hr.form
  by_cases h60 : p.length ≤ 60
  · have e1 : sealS p = sealB (padTo60 p) := by simp [sealS, h60]
    rw [e1]
    have hpl := padTo60_len h60
    have t1 : decide ((60 : Int) < p.length) = false := by simp; omega
    clear e1
    go_enter Try.func142, Try.ntmps142
    go_wp2_with (with_reducible refine stop_make ?_)
    refine Hold.go (wpList_makeB (n := 60) rfl _ _ rfl rfl rfl H (by decide) ?_)
    intro v1 w1 H1
    go_wp2_with (with_reducible refine stop_copy ?_)
    refine Hold.go (wpList_copyB rfl _ _ rfl rfl rfl H1 (hr0.world H1) ?_)
    intro w2 H2
    obtain ⟨R3, le3, H3, hr3⟩ := H2.freezeRow
    rw [List.length_replicate] at hr3
    clear H1 H2
    go_wp2_with fail
    refine (seal_crc (b := padTo60 p) H3 (le3.blk _ _ hT) hr3 (by omega)).mono ?_
    rintro e w4 ⟨o4, rfl, H4⟩
    go_wp2_with fail
    go_ret
    exact ⟨_, rfl, H4.weaken le3⟩
  · have e1 : sealS p = [] := by simp [sealS, h60]
    rw [e1]
    have t1 : decide ((60 : Int) < p.length) = true := by simp; omega
    clear e1
    go_enter Try.func142, Try.ntmps142
    go_wp2_with fail
    go_ret
    exact ⟨_, rfl, H.nilRow _ 1⟩
def openOk (b : List UInt8) : Bool := decide (b.length = 64) && goodB b
def openP (b : List UInt8) : List UInt8 := if openOk b = true then b.take 60 else []
theorem openP_len (b : List UInt8) : (openP b).length ≤ 60 := by unfold openP; split <;> simp; omega
theorem sopen_spec {w : World} {R : Snap} {L : Asrt} {pt : Nat} {v : Value} {b : List UInt8} (H : Holds w R L) (hT : R.blk pt = some (.cells (rowC 256) tabT (0, 0))) (hr : RdB R.cell? v b) :
    Calls Try.prog 147 #[.pointer (some ⟨pt, 0, none⟩), v] w fun e w' => ∃ o, e = .returned (.tuple #[o, .bool (openOk b)]) ∧ Holds w' R (star (rowB o (openP b)) L) := by
  have hr0 := hr
  obtain ⟨a, c, rfl⟩ := hr.form
  by_cases h64 : b.length = 64
  · have t1 : ((b.length : Int) != 64) = false := by simp [h64]
    have e0 : openOk b = goodB b := by simp [openOk, h64]
    have e1 : openP b = if goodB b = true then b.take 60 else [] := by rw [openP, e0]
    rw [e0, e1]
    have hb : b.length ≤ 1000000 := by omega
    have hB := hr0.bounds
    have i1 : (60 : Int) ≤ c := by omega
    have hpre := RdB.pre hr0 60 (by omega)
    have hp6 : (b.take 60).length ≤ 60 := by simp; omega
    clear e0 e1 h64 hB
    have hgood := good_crc H hT hr0 hb
    cases hg : goodB b with
    | true =>
      rw [hg] at hgood
      rw [if_pos rfl]
      clear hg
      go_enter Try.func147, Try.ntmps147
      go_wp2_with (with_reducible refine stop_append ?_)
      refine hgood.mono ?_
      rintro e w1 ⟨rfl, H1⟩
      go_wp2_with (with_reducible refine stop_append ?_)
      refine Hold.go (wpList_appendB rfl _ _ rfl rfl rfl (freshB H1) (hpre.world (H1.garbage _)) (by simp only [List.length_nil]; omega) ?_)
      intro v2 w2 H2
      go_wp2_with fail
      go_ret2
      exact ⟨_, rfl, H2⟩
    | false =>
      rw [hg] at hgood
      rw [if_neg (by decide)]
      clear hg
      go_enter Try.func147, Try.ntmps147
      go_wp2_with fail
      refine hgood.mono ?_
      rintro e w1 ⟨rfl, H1⟩
      go_wp2_with fail
      go_ret2
      exact ⟨_, rfl, H1.nilRow _ 1⟩
  · have t1 : ((b.length : Int) != 64) = true := by rw [bne_iff_ne]; omega
    have e0 : openOk b = false := by simp [openOk, h64]
    have e1 : openP b = [] := by simp [openP, e0]
    rw [e0, e1]
    clear e0 e1
    go_enter Try.func147, Try.ntmps147
    go_wp2_with fail
    go_ret2
    exact ⟨_, rfl, H.nilRow _ 1⟩
end Sh
/- disk.Disk's contracts: what a disk owns, and the small functions. -/
set_option linter.unusedVariables false
set_option linter.unusedSimpArgs false
namespace Sh
open Go Go.RowKit Go.Proofs
attribute [local go_sem ↓] Go.wp_at_zero Go.wp_at_succ
set_option maxHeartbeats 1000000
set_option maxRecDepth 100000

/-- A disk: its block, the row of its sectors' values, and each sector's bytes. -/
def diskA (p : Nat) (q : List (Value × List UInt8)) (left : Int) (dead : Bool) : Asrt := ex fun vs => star (blk p #[vs, .int .i64 left, .bool dead] 195) (star (row tBytes 1 vs q.length (q.map (·.1))) (bytesAll q))
/-- A disk whose sectors are S. -/
def diskS (p : Nat) (S : List (List UInt8)) (left : Int) (dead : Bool) : Asrt := ex fun q : {q : List (Value × List UInt8) // q.map (·.2) = S} => diskA p q.1 left dead
section
variable {w : World} {R : Snap} {L : Asrt} {p : Nat} {S : List (List UInt8)} {left : Int} {dead : Bool}
theorem disk_open (H : Holds w R (star (diskS p S left dead) L)) :
    ∃ (q : List (Value × List UInt8)) (a : Option Addr) (c : Nat), q.map (·.2) = S ∧ Holds w R (star (blk p #[.slice a q.length c, .int .i64 left, .bool dead] 195) (star (row tBytes 1 (.slice a q.length c) q.length (q.map (·.1))) (star (bytesAll q) L))) := by
  obtain ⟨⟨q, hq⟩, H0⟩ := H.unex
  obtain ⟨vs, H1⟩ := H0.unex
  have H3 := H1
  simp only [star_assoc] at H3
  obtain ⟨a, c, rfl⟩ := H3.swap.rowRd.form
  exact ⟨q, a, c, hq, H3⟩
theorem disk_shut {q : List (Value × List UInt8)} {v : Value} (hq : q.map (·.2) = S) (H : Holds w R (star (blk p #[v, .int .i64 left, .bool dead] 195) (star (row tBytes 1 v q.length (q.map (·.1))) (star (bytesAll q) L)))) :
    Holds w R (star (diskS p S left dead) L) := by
  refine Holds.toex (A := fun q : {q : List (Value × List UInt8) // q.map (·.2) = S} => diskA p q.1 left dead) ⟨q, hq⟩ (Holds.toex (A := fun vs => star (blk p #[vs, .int .i64 left, .bool dead] 195) (star (row tBytes 1 vs q.length (q.map (·.1))) (bytesAll q))) v ?_)
  simp only [star_assoc]
  exact H
theorem zero_spec (H : Holds w R L) : Calls Try.prog 176 #[] w fun e w' => ∃ v, e = .returned v ∧ Holds w' R (star (rowB v (List.replicate 64 0)) L) := by
  go_enter Try.func176, Try.ntmps176
  go_wp2_with (with_reducible refine stop_make ?_)
  refine Hold.go (wpList_makeB (n := 64) rfl _ _ rfl rfl rfl H (by decide) ?_)
  intro v2 w2 H2
  go_wp2_with fail
  go_ret
  exact ⟨_, rfl, H2⟩
theorem size_spec (H : Holds w R (star (diskS p S left dead) L)) :
    Calls Try.prog 94 #[.pointer (some ⟨p, 0, none⟩)] w fun e w' => e = .returned (.int .i64 S.length) ∧ w = w' := by
  obtain ⟨q, a, c, rfl, H1⟩ := disk_open H
  obtain ⟨l1, n1, c1, z1⟩ := Holds.facts (H1)
  go_enter Try.func94, Try.ntmps94
  go_wp2_with fail
  go_ret
  exact ⟨by simp, rfl⟩
theorem there_spec {i : Int} (H : Holds w R (star (diskS p S left dead) L)) :
    Calls Try.prog 174 #[.pointer (some ⟨p, 0, none⟩), .int .i64 i] w fun e w' => e = .returned (.bool (decide (0 ≤ i ∧ i < S.length))) ∧ w = w' := by
  by_cases h0 : 0 ≤ i
  · have t0 : (decide ((0 : Int) ≤ i)) = true := by simpa using h0
    go_enter Try.func174, Try.ntmps174
    go_wp2_with fail
    refine (size_spec H).mono ?_
    rintro e w1 ⟨rfl, rfl⟩
    go_wp2_with fail
    go_ret
    exact ⟨ret_bool (by simp [h0]), rfl⟩
  · have t0 : (decide ((0 : Int) ≤ i)) = false := by simpa using h0
    go_enter Try.func174, Try.ntmps174
    go_wp2_with fail
    go_ret
    exact ⟨ret_bool (by simp [h0]), rfl⟩
def spendOk (left : Int) (dead : Bool) : Bool := !(dead || decide (left = 0))
def spendLeft (left : Int) (dead : Bool) : Int := if spendOk left dead = true ∧ 0 < left then left - 1 else left
theorem spend_spec (H : Holds w R (star (diskS p S left dead) L)) (hl : -1 ≤ left ∧ left ≤ 9223372036854775807) :
    Calls Try.prog 175 #[.pointer (some ⟨p, 0, none⟩)] w fun e w' => e = .returned (.bool (spendOk left dead)) ∧ Holds w' R (star (diskS p S (spendLeft left dead) (!spendOk left dead)) L) := by
  obtain ⟨q, a, c, hq, H1⟩ := disk_open H
  clear H
  have HQ := Hid.mk' hq
  obtain ⟨l1, n1, c1, z1⟩ := Holds.facts (H1)
  by_cases h0 : left = 0
  · subst h0
    have e1 : spendOk 0 dead = false := by simp [spendOk]
    have e2 : spendLeft 0 dead = 0 := by simp [spendLeft]
    rw [e1, e2]
    clear e1 e2
    go_enter Try.func175, Try.ntmps175
    go_wp2_with fail
    go_ret
    exact ⟨rfl, disk_shut HQ.out (H1.set 2 (.bool true))⟩
  · have t0 : (left == 0) = false := by simpa using h0
    cases dead with
    | true =>
      have e1 : spendOk left true = false := by simp [spendOk]
      have e2 : spendLeft left true = left := by simp [spendLeft, e1]
      rw [e1, e2]
      clear e1 e2
      go_enter Try.func175, Try.ntmps175
      go_wp2_with fail
      go_ret
      exact ⟨rfl, disk_shut HQ.out H1⟩
    | false =>
      have e1 : spendOk left false = true := by simp [spendOk, h0]
      by_cases h1 : 0 < left
      · have e2 : spendLeft left false = left - 1 := by simp [spendLeft, e1, h1]
        have t1 : (decide (0 < left)) = true := by simpa using h1
        rw [e1, e2]
        clear e1 e2
        go_enter Try.func175, Try.ntmps175
        go_wp2_with fail
        go_ret
        exact ⟨rfl, disk_shut HQ.out (H1.set 1 (.int .i64 (left - 1)))⟩
      · have e2 : spendLeft left false = left := by simp [spendLeft, h1]
        have t1 : (decide (0 < left)) = false := by simpa using h1
        rw [e1, e2]
        clear e1 e2
        go_enter Try.func175, Try.ntmps175
        go_wp2_with fail
        go_ret
        exact ⟨rfl, disk_shut HQ.out H1⟩
end
end Sh
/- disk.New. -/
set_option linter.unusedVariables false
set_option linter.unusedSimpArgs false
namespace Sh
open Go Go.RowKit Go.Proofs
attribute [local go_sem ↓] Go.wp_at_zero Go.wp_at_succ
set_option maxHeartbeats 1000000
set_option maxRecDepth 100000

abbrev tSecs : TypeId := 88
theorem undSecs : Try.prog.underlying tSecs = some (.slice tBytes) := Try.underlying88
theorem infoBytes : (Try.prog.info? tBytes).map (fun i => (i.zero, i.size, i.bytes)) = some (some (.slice none 0 0), 1, 24) := by kernel_rfl
def secN (n : Int) : Nat := (min (max n 1) 512).toNat
abbrev zeros (n : Nat) : List (List UInt8) := List.replicate n (List.replicate 64 0)
theorem disknew_spec {w : World} {R : Snap} {L : Asrt} {n : Int} (H : Holds w R L) :
    Calls Try.prog 162 #[.int .i64 n] w fun e w' => ∃ p, e = .returned (.pointer (some ⟨p, 0, none⟩)) ∧ Holds w' R (star (diskS p (zeros (secN n)) (-1) false) L) := by
  obtain ⟨m, hm⟩ : ∃ m, m = secN n := ⟨_, rfl⟩
  have e1 : min (max n 1) 512 = (m : Int) := by rw [hm, secN]; omega
  have hm5 : m ≤ 512 := by omega
  rw [← hm]
  have HM := Hid.mk' hm
  clear hm
  go_enter Try.func162, Try.ntmps162
  go_wp2_with fail
  have H1 : Holds _ R (star (diskS w.heap.size [] (-1) false) L) := disk_shut (q := []) rfl (by
    show Holds _ R (star _ (star _ (star emp L)))
    rw [emp_star]
    exact ((H.alloc #[.slice none 0 0, .int .i64 (-1), .bool false] 195).nilRow tBytes 1).swap)
  generalize (World.alloc ..) = w1 at H1 ⊢
  generalize w.heap.size = p at H1 ⊢
  go_loopw [9] (fun i wx => ∃ j : Nat, i = .int .i64 j ∧ j ≤ m ∧ Holds wx R (star (diskS p (zeros j) (-1) false) L)) (fun i _ => m - (intOf i).toNat)
  case atStart => exact ⟨0, rfl, Nat.zero_le _, H1⟩
  case round =>
    clear H H1
    obtain ⟨j, rfl, hj, H2⟩ := hrel
    by_cases hlt : j < m
    · go_upto_region 4 with fail
      obtain ⟨q, a, c, hq, H3⟩ := disk_open H2
      clear H2
      have hql : q.length = j := by have := congrArg List.length hq; simpa using this
      have HQ := Hid.mk' hq
      have HQL := Hid.mk' hql
      have hq9 : q.length ≤ 512 := by omega
      clear hq hql
      obtain ⟨l3, n3, c3, z3⟩ := Holds.facts (H3)
      go_region_law ((first | (go_simp; go_at_call 176; refine (zero_spec H3.drew).mono ?_; rintro e w5 ⟨v5, rfl, H5⟩; obtain ⟨a5, c5, rfl⟩ := H5.rowRd.form; rw [List.length_replicate] at H5 ⊢; obtain ⟨l5, n5, cp5, fp5⟩ := H5.swap.facts; have H6 := H5.pick3.alloc #[.slice a5 64 c5] tBytes; have hr6 := (H6.toRow 1 1 1 (Nat.le_refl _) (by simp [maxLen]) rfl).rowRd) | (refine step_append rfl _ _ (by rfl) undSecs infoBytes rfl (by decide) (by rfl) (by rfl) H6.drop hr6 (by simp [Value.oneCell']) (by simp [maxLen]; omega) (by omega) ?_; intro v6 w6 H7; obtain ⟨a6, c6, rfl⟩ := H7.rowRd.form; have cp6 := H7.pick3.blkCell; have fp6 := H7.pick3.blkFrozen)))
      all_goals
        go_wp2_with fail
        go_roundw
        case rel =>
          refine ⟨j + 1, by go_num, hlt, ?_⟩
          have H8 := H7.pick3.set 0 (.slice a6 (q.length + 1) c6)
          refine disk_shut (v := .slice a6 (q.length + 1) c6) (q := q ++ [(.slice a5 64 c5, List.replicate 64 0)]) (by rw [List.map_append, HQ.out]; simp [zeros, List.replicate_succ']) ?_
          rw [bytesAll_append, bytesAll_one, List.length_append, List.length_singleton, List.map_append]
          exact H8.ac (by ac_rfl)
        case measure => simp [intOf]; omega
    · go_wp2_with fail
      go_ret
      rw [show j = m by omega] at H2
      exact ⟨_, rfl, H2⟩
end Sh
