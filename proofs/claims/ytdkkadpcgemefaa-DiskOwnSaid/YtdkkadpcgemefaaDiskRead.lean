/- (*disk.Disk).Read. -/
import Derived.Test.YtdkkadpcgemefaaDisk
set_option linter.unusedVariables false
set_option linter.unusedSimpArgs false
namespace Sh
open Go Go.RowKit Go.Proofs
attribute [local go_sem ↓] Go.wp_at_zero Go.wp_at_succ
set_option maxHeartbeats 1000000
set_option maxRecDepth 100000

def secAt (S : List (List UInt8)) (i : Int) : List UInt8 := if 0 ≤ i then S.getD i.toNat [] else []
theorem secAt_nat (S : List (List UInt8)) (k : Nat) : secAt S k = S.getD k [] := by simp [secAt]
theorem dread_spec {w : World} {R : Snap} {L : Asrt} {p : Nat} {S : List (List UInt8)} {left : Int} {dead : Bool} {i : Int} (H : Holds w R (star (diskS p S left dead) L)) (hS : ∀ s ∈ S, s.length ≤ 1000000) :
    Calls Try.prog 95 #[.pointer (some ⟨p, 0, none⟩), .int .i64 i] w fun e w' => ∃ v, e = .returned v ∧ Holds w' R (star (rowB v (secAt S i)) (star (diskS p S left dead) L)) := by
  by_cases h0 : 0 ≤ i ∧ i < S.length
  · have t0 : decide (0 ≤ i ∧ i < S.length) = true := by simpa using h0
    obtain ⟨k, rfl⟩ : ∃ k : Nat, i = k := ⟨i.toNat, by omega⟩
    have hk : k < S.length := by omega
    obtain ⟨q, a, c, hq, H1⟩ := disk_open H
    have hkq : k < q.length := by rw [← hq] at hk; simpa using hk
    obtain ⟨g, cg, ha, hcg, hg, hcell, hfro⟩ := H1.swap.rowAt (by omega)
    simp only [Value.slice.injEq, true_and] at ha
    obtain ⟨rfl, rfl⟩ := ha
    have ck := hcell k q[k].1 (by simp [hkq])
    have hr : RdB w.cell? q[k].1 q[k].2 := by
      have H2 := H1
      rw [bytesAll_at hkq] at H2
      exact (H2.ac (B := star (rowB q[k].1 q[k].2) (star (blk p _ _) (star (row tBytes 1 _ q.length (q.map (·.1))) (star (star (bytesAll (q.take k)) (bytesAll (q.drop (k + 1)))) L)))) (by ac_rfl)).rowRd
    have e1 : q[k].2 = secAt S k := by
      rw [secAt_nat, ← hq]; simp [List.getD, hkq]
    have hlen : q[k].2.length ≤ 1000000 := hS _ (by rw [← hq]; exact List.mem_map.2 ⟨_, List.getElem_mem hkq, rfl⟩)
    rw [← e1]
    obtain ⟨x, hx⟩ : ∃ x, x = q[k] := ⟨_, rfl⟩
    rw [← hx] at ck hr hlen ⊢
    clear e1 hcell hx
    obtain ⟨xv, xb⟩ := x
    obtain ⟨ax, cx, hax⟩ := hr.form
    simp only at hax
    subst hax
    obtain ⟨l1, n1, c1, z1⟩ := Holds.facts (H1)
    have i1 : (k : Int) < q.length := by omega
    have HQ := Hid.mk' hq
    clear hq hfro h0
    go_enter Try.func95, Try.ntmps95
    go_wp2_with fail
    refine (there_spec H).mono ?_
    rintro e w1 ⟨rfl, rfl⟩
    rw [t0]
    clear t0
    go_wp2_with fail
    refine (clone_spec H hr hlen).mono ?_
    rintro e w2 ⟨v2, rfl, H2⟩
    go_wp2_with fail
    go_ret
    exact ⟨_, rfl, H2⟩
  · have t0 : decide (0 ≤ i ∧ i < S.length) = false := by simpa using h0
    have e1 : secAt S i = [] := by
      unfold secAt
      split
      · rw [List.getD, List.getElem?_eq_none (by omega)]; rfl
      · rfl
    rw [e1]
    clear e1
    go_enter Try.func95, Try.ntmps95
    go_wp2_with fail
    refine (there_spec H).mono ?_
    rintro e w1 ⟨rfl, rfl⟩
    rw [t0]
    go_wp2_with fail
    go_ret
    exact ⟨_, rfl, H.nilRow _ 1⟩
end Sh
