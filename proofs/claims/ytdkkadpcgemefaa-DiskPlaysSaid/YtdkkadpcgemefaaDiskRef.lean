/- sherdref16's contracts. -/
import Derived.Test.YtdkkadpcgemefaaDiskLaw
import Derived.Test.YtdkkadpcgemefaaDiskRot
set_option linter.unusedVariables false
set_option linter.unusedSimpArgs false
namespace Sh
open Go Go.RowKit Go.Proofs
attribute [local go_sem ↓] Go.wp_at_zero Go.wp_at_succ
set_option maxHeartbeats 1000000
set_option maxRecDepth 100000

section
variable {S : List (List UInt8)}
theorem flat64_drop : ∀ {S : List (List UInt8)} (h : ∀ s ∈ S, s.length = 64) (i : Nat), S.flatten.drop (64 * i) = (S.drop i).flatten
  | [], _, i => by simp
  | s :: S, h, 0 => rfl
  | s :: S, h, i + 1 => by
    have h1 := h s List.mem_cons_self
    rw [List.flatten_cons, List.drop_append, List.drop_of_length_le (by rw [h1]; omega), List.nil_append, h1, show 64 * (i + 1) - 64 = 64 * i by omega, List.drop_succ_cons]
    exact flat64_drop (fun x hx => h x (List.mem_cons_of_mem _ hx)) i
theorem flat64_sec (h : ∀ s ∈ S, s.length = 64) {i : Nat} (hi : i < S.length) : (S.flatten.drop (64 * i)).take 64 = S[i] := by
  rw [flat64_drop h, List.drop_eq_getElem_cons hi, List.flatten_cons, List.take_append_of_le_length (by rw [h _ (List.getElem_mem hi)]; exact Nat.le_refl _), List.take_of_length_le (by rw [h _ (List.getElem_mem hi)]; exact Nat.le_refl _)]
theorem flat64_set : ∀ {S : List (List UInt8)} (h : ∀ s ∈ S, s.length = 64) {i j : Nat} (hi : i < S.length) (hj : j < 64) (c : UInt8), S.flatten.set (64 * i + j) c = (S.set i (S[i].set j c)).flatten
  | [], _, i, j, hi, _, _ => by simp at hi
  | s :: S, h, 0, j, hi, hj, c => by
    have h1 := h s List.mem_cons_self
    rw [List.flatten_cons, Nat.mul_zero, Nat.zero_add, List.set_append_left _ _ (by rw [h1]; exact hj)]
    rfl
  | s :: S, h, i + 1, j, hi, hj, c => by
    have h1 := h s List.mem_cons_self
    rw [List.flatten_cons, List.set_append_right _ _ (by rw [h1]; omega), h1, show 64 * (i + 1) + j - 64 = 64 * i + j by omega, flat64_set (fun x hx => h x (List.mem_cons_of_mem _ hx)) (by simpa using hi) hj c]
    rfl
end
/-- The reference's disk: all bytes in one row. -/
def mS (p : Nat) (S : List (List UInt8)) (left : Int) (dead : Bool) : Asrt := ex fun v => star (blk p #[v, .int .i64 left, .bool dead] 94) (rowB v S.flatten)
section
variable {w : World} {R : Snap} {L : Asrt} {p : Nat} {S : List (List UInt8)} {left : Int} {dead : Bool}
theorem m_open (H : Holds w R (star (mS p S left dead) L)) : ∃ a c, Holds w R (star (blk p #[.slice a S.flatten.length c, .int .i64 left, .bool dead] 94) (star (rowB (.slice a S.flatten.length c) S.flatten) L)) := by
  obtain ⟨v, H1⟩ := H.unex
  replace H1 := H1.unstar
  obtain ⟨a, c, rfl⟩ := H1.swap.rowRd.form
  exact ⟨a, c, H1⟩
theorem m_shut {v : Value} (H : Holds w R (star (blk p #[v, .int .i64 left, .bool dead] 94) (star (rowB v S.flatten) L))) : Holds w R (star (mS p S left dead) L) :=
  Holds.toex (A := fun v => star (blk p #[v, .int .i64 left, .bool dead] 94) (rowB v S.flatten)) v H.tostar
theorem mnew_spec {n : Int} (H : Holds w R L) :
    Calls Try.prog 89 #[.int .i64 n] w fun e w' => ∃ p, e = .returned (.pointer (some ⟨p, 0, none⟩)) ∧ Holds w' R (star (mS p (zeros (secN n)) (-1) false) L) := by
  have hfl : ∀ m : Nat, (zeros m).flatten = List.replicate (64 * m) 0 := fun m => by
    induction m with
    | zero => rfl
    | succ m ih => rw [zeros, List.replicate_succ, List.flatten_cons, ih, List.replicate_append_replicate, show 64 + 64 * m = 64 * (m + 1) by omega]
  have main : ∀ m : Nat, m ≤ 512 → 1 ≤ m → secN n = m → (n = (m : Int) ∨ (n < 1 ∧ m = 1) ∨ (512 < n ∧ m = 512)) → Calls Try.prog 89 #[.int .i64 n] w fun e w' => ∃ p, e = .returned (.pointer (some ⟨p, 0, none⟩)) ∧ Holds w' R (star (mS p (zeros m) (-1) false) L) := by
    intro m hm hm1 hs hc
    have HF := Hid.mk' (hfl m)
    have HZ : Hid ((zeros m).flatten.length = 64 * m) := Hid.mk' (by rw [hfl]; simp)
    clear hs hfl
    rcases hc with rfl | ⟨hc, hm2⟩ | ⟨hc, hm2⟩
    · go_enter Try.func89, Try.ntmps89
      go_wp2_with (with_reducible refine stop_make ?_)
      refine Hold.go (wpList_makeB (n := 64 * m) rfl _ _ rfl rfl rfl H (by omega) ?_)
      intro v2 w2 H2
      rw [← HF.out] at H2
      obtain ⟨a2, c2, rfl⟩ := H2.rowRd.form
      have H3 := H2.at_len HZ.out
      rw [HZ.out]
      go_wp2_with fail
      go_ret
      exact ⟨_, rfl, m_shut (H3.alloc _ _)⟩
    · have HM := Hid.mk' hm2
      clear hm2
      go_enter Try.func89, Try.ntmps89
      go_wp2_with (with_reducible refine stop_make ?_)
      refine Hold.go (wpList_makeB (n := 64) rfl _ _ rfl rfl rfl H (by omega) ?_)
      intro v2 w2 H2
      rw [show (64 : Nat) = 64 * m by rw [HM.out], ← HF.out] at H2
      obtain ⟨a2, c2, rfl⟩ := H2.rowRd.form
      have H3 := H2.at_len HZ.out
      rw [HZ.out]
      go_wp2_with fail
      go_ret
      exact ⟨_, rfl, m_shut (H3.alloc _ _)⟩
    · have HM := Hid.mk' hm2
      clear hm2
      go_enter Try.func89, Try.ntmps89
      go_wp2_with (with_reducible refine stop_make ?_)
      refine Hold.go (wpList_makeB (n := 32768) rfl _ _ rfl rfl rfl H (by omega) ?_)
      intro v2 w2 H2
      rw [show (32768 : Nat) = 64 * m by rw [HM.out], ← HF.out] at H2
      obtain ⟨a2, c2, rfl⟩ := H2.rowRd.form
      have H3 := H2.at_len HZ.out
      rw [HZ.out]
      go_wp2_with fail
      go_ret
      exact ⟨_, rfl, m_shut (H3.alloc _ _)⟩
  refine main (secN n) ?_ ?_ rfl ?_
  · unfold secN; omega
  · unfold secN; omega
  · unfold secN; omega
theorem is_spec {i : Int} (H : Holds w R (star (mS p S left dead) L)) (hS : ∀ s ∈ S, s.length = 64) (hl : S.length ≤ 1000) :
    Calls Try.prog 185 #[.pointer (some ⟨p, 0, none⟩), .int .i64 i] w fun e w' => e = .returned (.bool (decide (0 ≤ i ∧ i < S.length))) ∧ w = w' := by
  obtain ⟨a, c, H1⟩ := m_open H
  have hf := flatten_len hS
  obtain ⟨l1, n1, c1, z1⟩ := Holds.facts (H1)
  obtain ⟨n, hn⟩ : ∃ n, n = S.flatten.length := ⟨_, rfl⟩
  have hq : (n : Int) / 64 = S.length := by omega
  rw [← hn] at c1
  clear hf hn
  by_cases h0 : 0 ≤ i
  · have t0 : (decide ((0 : Int) ≤ i)) = true := by simpa using h0
    go_enter Try.func185, Try.ntmps185
    go_wp2_with fail
    go_ret
    exact ⟨ret_bool (by simp [h0]), rfl⟩
  · have t0 : (decide ((0 : Int) ≤ i)) = false := by simpa using h0
    go_enter Try.func185, Try.ntmps185
    go_wp2_with fail
    go_ret
    exact ⟨ret_bool (by simp [h0]), rfl⟩
theorem mpower_spec {n : Int} (H : Holds w R (star (mS p S left dead) L)) :
    Calls Try.prog 91 #[.pointer (some ⟨p, 0, none⟩), .int .i64 n] w fun e w' => e = .returned (.tuple #[]) ∧ Holds w' R (star (mS p S (max n (-1)) false) L) := by
  obtain ⟨a, c, H1⟩ := m_open H
  clear H
  obtain ⟨l1, n1, c1, z1⟩ := Holds.facts (H1)
  by_cases h0 : n < 0
  · rw [show max n (-1) = -1 by omega]
    go_enter Try.func91, Try.ntmps91
    go_wp2_with fail
    go_end0
    exact ⟨rfl, m_shut ((H1.set 1 (.int .i64 (-1))).set 2 (.bool false))⟩
  · rw [show max n (-1) = n by omega]
    go_enter Try.func91, Try.ntmps91
    go_wp2_with fail
    go_end0
    exact ⟨rfl, m_shut ((H1.set 1 (.int .i64 n)).set 2 (.bool false))⟩
theorem mread_spec {i : Int} (H : Holds w R (star (mS p S left dead) L)) (hS : ∀ s ∈ S, s.length = 64) (hl : S.length ≤ 1000) :
    Calls Try.prog 96 #[.pointer (some ⟨p, 0, none⟩), .int .i64 i] w fun e w' => ∃ v, e = .returned v ∧ Holds w' R (star (rowB v (secAt S i)) (star (mS p S left dead) L)) := by
  by_cases h0 : 0 ≤ i ∧ i < S.length
  · have t0 : decide (0 ≤ i ∧ i < S.length) = true := by simpa using h0
    obtain ⟨k, rfl⟩ : ∃ k : Nat, i = k := ⟨i.toNat, by omega⟩
    have hk : k < S.length := by omega
    have e1 : secAt S k = (S.flatten.drop (64 * k)).take 64 := by rw [flat64_sec hS hk, secAt_nat, List.getD, List.getElem?_eq_getElem hk]; rfl
    rw [e1]
    obtain ⟨a, c, H1⟩ := m_open H
    have hf := flatten_len hS
    have hr := H1.swap.rowRd
    have hB := hr.bounds
    have hsub := RdB.sub hr (64 * k) (64 * k + 64) c (by omega) (by omega) (by omega) (Nat.le_refl _)
    have hs9 : ((S.flatten.drop (64 * k)).take 64).length ≤ 64 := by simp; omega
    obtain ⟨l1, n1, c1, z1⟩ := Holds.facts (H1)
    have j1 : (64 : Int) * k + 64 ≤ c := by omega
    have hsz : ∀ w, (Go.sizeOf tU8).run Try.prog w = .ok 1 w := fun w => by kernel_rfl
    obtain ⟨m, hm⟩ : ∃ m : Nat, m = 64 * k := ⟨_, rfl⟩
    have hme : (64 : Int) * k = (m : Int) := by omega
    have j2 : (m : Int) + 64 ≤ c := by omega
    have j3 : m ≤ 64000 := by omega
    rw [← hm] at hsub hs9 ⊢
    have hsub : RdB w.cell? (.slice (Option.map (fun x => x.add m) a) (m + 64 - m) (c - m)) ((S.flatten.drop m).take 64) := by
      have e64 : m + 64 - m = 64 := by omega
      rw [e64] at hsub ⊢
      rw [adr, if_neg (by omega), Nat.mul_one] at hsub
      exact hsub
    have HS := Hid.mk' hS
    clear hS hB e1 h0 j1 hf hm
    have hr2 := hsub.below ((Below.refl _ _).alloc (Nat.le_refl _) (.cells #[] tU8))
    go_enter Try.func96, Try.ntmps96
    go_wp2_with (with_reducible refine stop_append ?_)
    refine (is_spec H HS.out hl).mono ?_
    rintro e w1 ⟨rfl, rfl⟩
    rw [t0]
    go_wp2_with (with_reducible refine stop_append ?_)
    refine Hold.go (wpList_appendB rfl _ _ rfl rfl rfl (freshB H) hr2 (by simp only [List.length_nil]; omega) ?_)
    intro v2 w2 H2
    go_wp2_with fail
    go_ret
    exact ⟨_, rfl, H2⟩
  · have t0 : decide (0 ≤ i ∧ i < S.length) = false := by simpa using h0
    have e1 : secAt S i = [] := by
      unfold secAt
      split
      · rw [List.getD, List.getElem?_eq_none (by omega)]; rfl
      · rfl
    rw [e1]
    have HS := Hid.mk' hS
    clear e1 hS
    go_enter Try.func96, Try.ntmps96
    go_wp2_with fail
    refine (is_spec H HS.out hl).mono ?_
    rintro e w1 ⟨rfl, rfl⟩
    rw [t0]
    go_wp2_with fail
    go_ret
    exact ⟨_, rfl, H.nilRow _ 1⟩
end
end Sh
