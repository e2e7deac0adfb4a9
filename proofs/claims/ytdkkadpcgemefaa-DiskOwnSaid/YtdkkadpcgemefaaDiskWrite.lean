/- (*disk.Disk).Write. -/
import Derived.Test.YtdkkadpcgemefaaDisk
set_option linter.unusedVariables false
set_option linter.unusedSimpArgs false
namespace Sh
open Go Go.RowKit Go.Proofs
attribute [local go_sem ↓] Go.wp_at_zero Go.wp_at_succ
set_option maxHeartbeats 1000000
set_option maxRecDepth 100000

def wFit (n : Nat) (i : Int) (b : List UInt8) : Bool := decide ((0 ≤ i ∧ i < n) ∧ (b.length = 0 ∨ b.length = 64))
def wOk (n : Nat) (left : Int) (dead : Bool) (i : Int) (b : List UInt8) : Bool := wFit n i b && spendOk left dead
def pad64 (b : List UInt8) : List UInt8 := b.take 64 ++ (List.replicate 64 0).drop b.length
def wS (S : List (List UInt8)) (left : Int) (dead : Bool) (i : Int) (b : List UInt8) : List (List UInt8) := if wOk S.length left dead i b = true then S.set i.toNat (pad64 b) else S
def wLeft (n : Nat) (left : Int) (dead : Bool) (i : Int) (b : List UInt8) : Int := if wFit n i b = true then spendLeft left dead else left
def wDead (n : Nat) (left : Int) (dead : Bool) (i : Int) (b : List UInt8) : Bool := if wFit n i b = true then !spendOk left dead else dead
theorem dwrite_spec {w : World} {R : Snap} {L : Asrt} {p : Nat} {S : List (List UInt8)} {left : Int} {dead : Bool} {i : Int} {v : Value} {b : List UInt8} (H : Holds w R (star (diskS p S left dead) L)) (hr : RdB R.cell? v b) (hl : -1 ≤ left ∧ left ≤ 9223372036854775807) :
    Calls Try.prog 76 #[.pointer (some ⟨p, 0, none⟩), .int .i64 i, v] w fun e w' => e = .returned (.bool (wOk S.length left dead i b)) ∧ Holds w' R (star (diskS p (wS S left dead i b) (wLeft S.length left dead i b) (wDead S.length left dead i b)) L) := by
  have hr0 := hr
  obtain ⟨ab, cb, rfl⟩ := hr.form
  by_cases h0 : 0 ≤ i ∧ i < S.length
  · have t0 : decide (0 ≤ i ∧ i < S.length) = true := by simpa using h0
    by_cases h1 : b.length = 0 ∨ b.length = 64
    · have e0 : wFit S.length i b = true := by simp only [wFit, decide_eq_true_eq]; exact ⟨h0, h1⟩
      have e1 : wOk S.length left dead i b = spendOk left dead := by simp [wOk, e0]
      simp only [wS, wLeft, wDead, e1, e0, if_true]
      clear e0 e1
      obtain ⟨k, rfl⟩ : ∃ k : Nat, i = k := ⟨i.toNat, by omega⟩
      have hk : k < S.length := by omega
      have main : Calls Try.prog 182 #[.pointer (some ⟨p, 0, none⟩)] w fun e w' => e = .returned (.bool (spendOk left dead)) ∧ Holds w' R (star (diskS p S (spendLeft left dead) (!spendOk left dead)) L) := spend_spec H hl
      rw [Int.toNat_natCast]
      have hz : (((b.length : Int) != 0) = false) ∨ (((b.length : Int) != 0) = true ∧ ((b.length : Int) != 64) = false) := by
        rcases h1 with h1 | h1
        · left; simp [h1]
        · right; simp [h1]
      clear h0 h1
      generalize spendLeft left dead = left2 at main ⊢
      generalize spendOk left dead = ok at main ⊢
      cases ok with
      | false =>
        rcases hz with hz | ⟨hz, hz2⟩
        all_goals
          go_enter Try.func76, Try.ntmps76
          go_wp2_with fail
          refine (there_spec H).mono ?_
          rintro e w1 ⟨rfl, rfl⟩
          rw [t0]
          go_wp2_with fail
          refine main.mono ?_
          rintro e w2 ⟨rfl, H2⟩
          go_wp2_with fail
          go_ret
          exact ⟨rfl, H2⟩
      | true =>
        rcases hz with hz | ⟨hz, hz2⟩
        all_goals
          go_enter Try.func76, Try.ntmps76
          go_wp2_with fail
          refine (there_spec H).mono ?_
          rintro e w1 ⟨rfl, rfl⟩
          rw [t0]
          clear t0
          go_wp2_with fail
          refine main.mono ?_
          rintro e w2 ⟨rfl, H2⟩
          clear main H
          go_wp2_with fail
          refine (zero_spec H2).mono ?_
          rintro e w3 ⟨v3, rfl, H3⟩
          clear H2
          obtain ⟨a3, c3, rfl⟩ := H3.rowRd.form
          rw [List.length_replicate] at H3 ⊢
          go_wp2_with (with_reducible refine stop_copy ?_)
          refine Hold.go (wpList_copyB rfl _ _ rfl rfl rfl H3 (hr0.world H3) ?_)
          intro w4 H4
          clear H3
          obtain ⟨q, a, c, hq, H5⟩ := disk_open H4.swap
          clear H4
          have hkq : k < q.length := by rw [← hq] at hk; simpa using hk
          obtain ⟨g, cg, ha, hcg, hg, hcell, hfro⟩ := H5.swap.rowAt (by omega)
          simp only [Value.slice.injEq, true_and] at ha
          obtain ⟨rfl, rfl⟩ := ha
          have ck := hcell k q[k].1 (by simp [hkq])
          have fk := hfro k
          have H6 := (H5.swap.rowSet k (.slice a3 64 c3) (by omega))
          have i1 : (k : Int) < q.length := by omega
          have HQ := Hid.mk' hq
          obtain ⟨l5, n5, c5, z5⟩ := Holds.facts (H5)
          clear hcell hfro hq hz
          generalize q[k].1 = y at ck
          go_wp2_with fail
          go_ret
          refine ⟨rfl, ?_⟩
          refine disk_shut (v := .slice (some ⟨g, 0, none⟩) q.length c) (q := q.set k (.slice a3 64 c3, pad64 b)) (by rw [List.map_set, HQ.out]) ?_
          rw [bytesAll_set hkq, List.length_set, List.map_set]
          rw [bytesAll_at hkq] at H6
          simp only [List.length_replicate] at H6
          have H7 := (H6.ac (B := star (rowB q[k].1 q[k].2) (star (blk p _ _) (star (row tBytes 1 _ q.length _) (star (star (rowB _ (pad64 b)) (star (bytesAll (q.take k)) (bytesAll (q.drop (k + 1))))) L)))) (by simp only [pad64]; ac_rfl)).drop
          exact H7
    · have e0 : wFit S.length i b = false := by simp only [wFit, decide_eq_false_iff_not]; exact fun h => h1 h.2
      have e1 : wOk S.length left dead i b = false := by simp [wOk, e0]
      simp only [wS, wLeft, wDead, e1, e0, if_false, Bool.false_eq_true]
      have h2 : b.length ≠ 0 ∧ b.length ≠ 64 := ⟨fun h => h1 (.inl h), fun h => h1 (.inr h)⟩
      have hz : ((b.length : Int) != 0) = true := by rw [bne_iff_ne]; omega
      have hz2 : ((b.length : Int) != 64) = true := by rw [bne_iff_ne]; omega
      clear e0 e1
      go_enter Try.func76, Try.ntmps76
      go_wp2_with fail
      refine (there_spec H).mono ?_
      rintro e w1 ⟨rfl, rfl⟩
      rw [t0]
      go_wp2_with fail
      go_ret
      exact ⟨rfl, H⟩
  · have t0 : decide (0 ≤ i ∧ i < S.length) = false := by simpa using h0
    have e0 : wFit S.length i b = false := by simp only [wFit, decide_eq_false_iff_not]; exact fun h => h0 h.1
    have e1 : wOk S.length left dead i b = false := by simp [wOk, e0]
    simp only [wS, wLeft, wDead, e1, e0, if_false, Bool.false_eq_true]
    clear e0 e1
    go_enter Try.func76, Try.ntmps76
    go_wp2_with fail
    refine (there_spec H).mono ?_
    rintro e w1 ⟨rfl, rfl⟩
    rw [t0]
    go_wp2_with fail
    go_ret
    exact ⟨rfl, H⟩
end Sh
