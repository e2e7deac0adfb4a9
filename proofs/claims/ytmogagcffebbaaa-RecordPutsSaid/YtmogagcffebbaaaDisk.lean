/- disk.Disk's contracts: what a disk owns, and the small functions. -/
import Derived.Test.YtmogagcffebbaaaMem
set_option linter.unusedVariables false
set_option linter.unusedSimpArgs false
namespace Sh
open Go Go.RowKit Go.Proofs
attribute [local go_sem ↓] Go.wp_at_zero Go.wp_at_succ
set_option maxHeartbeats 1000000
set_option maxRecDepth 100000

/-- A disk: its block, the row of its sectors' values, and each sector's bytes. -/
def diskA (p : Nat) (q : List (Value × List UInt8)) (left : Int) (dead : Bool) : Asrt := ex fun vs => star (blk p #[vs, .int .i64 left, .bool dead] 195) (star (row tBytes 1 vs q.length (q.map (·.1))) (bytesAll q))
/-- A disk whose sectors are S. -/
def diskS (p : Nat) (S : List (List UInt8)) (left : Int) (dead : Bool) : Asrt := ex fun q : {q : List (Value × List UInt8) // q.map (·.2) = S} => diskA p q.1 left dead
section
variable {w : World} {R : Snap} {L : Asrt} {p : Nat} {S : List (List UInt8)} {left : Int} {dead : Bool}
theorem disk_open (H : Holds w R (star (diskS p S left dead) L)) :
    ∃ (q : List (Value × List UInt8)) (a : Option Addr) (c : Nat), q.map (·.2) = S ∧ Holds w R (star (blk p #[.slice a q.length c, .int .i64 left, .bool dead] 195) (star (row tBytes 1 (.slice a q.length c) q.length (q.map (·.1))) (star (bytesAll q) L))) := by
  obtain ⟨⟨q, hq⟩, H0⟩ := H.unex
  obtain ⟨vs, H1⟩ := H0.unex
  have H3 := H1
  simp only [star_assoc] at H3
  obtain ⟨a, c, rfl⟩ := H3.swap.rowRd.form
  exact ⟨q, a, c, hq, H3⟩
theorem disk_shut {q : List (Value × List UInt8)} {v : Value} (hq : q.map (·.2) = S) (H : Holds w R (star (blk p #[v, .int .i64 left, .bool dead] 195) (star (row tBytes 1 v q.length (q.map (·.1))) (star (bytesAll q) L)))) :
    Holds w R (star (diskS p S left dead) L) := by
  refine Holds.toex (A := fun q : {q : List (Value × List UInt8) // q.map (·.2) = S} => diskA p q.1 left dead) ⟨q, hq⟩ (Holds.toex (A := fun vs => star (blk p #[vs, .int .i64 left, .bool dead] 195) (star (row tBytes 1 vs q.length (q.map (·.1))) (bytesAll q))) v ?_)
  simp only [star_assoc]
  exact H
theorem zero_spec (H : Holds w R L) : Calls Try.prog 176 #[] w fun e w' => ∃ v, e = .returned v ∧ Holds w' R (star (rowB v (List.replicate 64 0)) L) := by
  go_enter Try.func176, Try.ntmps176
  go_wp2_with (with_reducible refine stop_make ?_)
  refine Hold.go (wpList_makeB (n := 64) rfl _ _ rfl rfl rfl H (by decide) ?_)
  intro v2 w2 H2
  go_wp2_with fail
  go_ret
  exact ⟨_, rfl, H2⟩
theorem size_spec (H : Holds w R (star (diskS p S left dead) L)) :
    Calls Try.prog 94 #[.pointer (some ⟨p, 0, none⟩)] w fun e w' => e = .returned (.int .i64 S.length) ∧ w = w' := by
  obtain ⟨q, a, c, rfl, H1⟩ := disk_open H
  obtain ⟨l1, n1, c1, z1⟩ := Holds.facts (H1)
  go_enter Try.func94, Try.ntmps94
  go_wp2_with fail
  go_ret
  exact ⟨by simp, rfl⟩
theorem there_spec {i : Int} (H : Holds w R (star (diskS p S left dead) L)) :
    Calls Try.prog 174 #[.pointer (some ⟨p, 0, none⟩), .int .i64 i] w fun e w' => e = .returned (.bool (decide (0 ≤ i ∧ i < S.length))) ∧ w = w' := by
  by_cases h0 : 0 ≤ i
  · have t0 : (decide ((0 : Int) ≤ i)) = true := by simpa using h0
    go_enter Try.func174, Try.ntmps174
    go_wp2_with fail
    refine (size_spec H).mono ?_
    rintro e w1 ⟨rfl, rfl⟩
    go_wp2_with fail
    go_ret
    exact ⟨ret_bool (by simp [h0]), rfl⟩
  · have t0 : (decide ((0 : Int) ≤ i)) = false := by simpa using h0
    go_enter Try.func174, Try.ntmps174
    go_wp2_with fail
    go_ret
    exact ⟨ret_bool (by simp [h0]), rfl⟩
def spendOk (left : Int) (dead : Bool) : Bool := !(dead || decide (left = 0))
def spendLeft (left : Int) (dead : Bool) : Int := if spendOk left dead = true ∧ 0 < left then left - 1 else left
theorem spend_spec (H : Holds w R (star (diskS p S left dead) L)) (hl : -1 ≤ left ∧ left ≤ 9223372036854775807) :
    Calls Try.prog 175 #[.pointer (some ⟨p, 0, none⟩)] w fun e w' => e = .returned (.bool (spendOk left dead)) ∧ Holds w' R (star (diskS p S (spendLeft left dead) (!spendOk left dead)) L) := by
  obtain ⟨q, a, c, hq, H1⟩ := disk_open H
  clear H
  have HQ := Hid.mk' hq
  obtain ⟨l1, n1, c1, z1⟩ := Holds.facts (H1)
  by_cases h0 : left = 0
  · subst h0
    have e1 : spendOk 0 dead = false := by simp [spendOk]
    have e2 : spendLeft 0 dead = 0 := by simp [spendLeft]
    rw [e1, e2]
    clear e1 e2
    go_enter Try.func175, Try.ntmps175
    go_wp2_with fail
    go_ret
    exact ⟨rfl, disk_shut HQ.out (H1.set 2 (.bool true))⟩
  · have t0 : (left == 0) = false := by simpa using h0
    cases dead with
    | true =>
      have e1 : spendOk left true = false := by simp [spendOk]
      have e2 : spendLeft left true = left := by simp [spendLeft, e1]
      rw [e1, e2]
      clear e1 e2
      go_enter Try.func175, Try.ntmps175
      go_wp2_with fail
      go_ret
      exact ⟨rfl, disk_shut HQ.out H1⟩
    | false =>
      have e1 : spendOk left false = true := by simp [spendOk, h0]
      by_cases h1 : 0 < left
      · have e2 : spendLeft left false = left - 1 := by simp [spendLeft, e1, h1]
        have t1 : (decide (0 < left)) = true := by simpa using h1
        rw [e1, e2]
        clear e1 e2
        go_enter Try.func175, Try.ntmps175
        go_wp2_with fail
        go_ret
        exact ⟨rfl, disk_shut HQ.out (H1.set 1 (.int .i64 (left - 1)))⟩
      · have e2 : spendLeft left false = left := by simp [spendLeft, h1]
        have t1 : (decide (0 < left)) = false := by simpa using h1
        rw [e1, e2]
        clear e1 e2
        go_enter Try.func175, Try.ntmps175
        go_wp2_with fail
        go_ret
        exact ⟨rfl, disk_shut HQ.out H1⟩
end
end Sh
