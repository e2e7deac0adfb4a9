/- super's contracts. -/
import Derived.Test.YtdkkadpcgemefaaSuperMath
set_option linter.unusedVariables false
set_option linter.unusedSimpArgs false
namespace Sh
open Go Go.RowKit Go.Proofs
attribute [local go_sem ↓] Go.wp_at_zero Go.wp_at_succ
set_option maxHeartbeats 1000000
set_option maxRecDepth 100000

abbrev tSuper : TypeId := 146
abbrev supV (f d s : Int) : Value := .agg #[.int .i64 f, .int .i64 d, .int .i64 s]
theorem eqSup (w : World) (n : Nat) (a b c a' b' c' : Int) : (Op.equalIn (n + 2) tSuper (supV a b c) (supV a' b' c')).run Try.prog w = .ok (supEq a b c a' b' c') w := by
  rw [run_equalIn_struct (P := Try.prog) w (n + 1) tSuper _ _ (by simp only [Program.fieldsOf, Try.underlying146]) Try.stoodInHeld146]
  simp only [Program.fieldsOf, Try.underlying146, Op.eqFields, supEq]
  by_cases h1 : a = a' <;> by_cases h2 : b = b' <;> by_cases h3 : c = c' <;>
    simp [go_sem, part, isAgg, run_underlying Try.underlying3, run_equalIn_int (P := Try.prog) w n _ .i64 .i64 _ _ Try.underlying3, h1, h2, h3]
@[go_sem high] theorem eqlSup (w : World) (a b c a' b' c' : Int) : (binOp .eql tSuper (supV a b c) (supV a' b' c')).run Try.prog w = .ok (.bool (supEq a b c a' b' c')) w := by
  rw [run_eql_struct, eqSup w 9998]; rfl
@[go_sem high] theorem neqSup (w : World) (a b c a' b' c' : Int) : (binOp .neq tSuper (supV a b c) (supV a' b' c')).run Try.prog w = .ok (.bool (!supEq a b c a' b' c')) w := by
  have h := eqSup w 9998 a b c a' b' c'
  simp only [binOp]
  simp [Op.equal, Op.maxDepth, h]
theorem supRight_spec {w : World} {R : Snap} {L : Asrt} {f d s : Int} (H : Holds w R L) :
    Calls Try.prog 125 #[supV f d s] w fun e w' => e = .returned (.bool (supRight f d s)) ∧ Holds w' R L := by
  unfold supRight supZero
  cases hz : supEq f d s 0 0 0 with
  | true =>
    rw [Bool.true_or]
    go_enter Try.func125, Try.ntmps125
    go_wp2_with fail
    go_ret
    exact ⟨rfl, H.garbage _⟩
  | false =>
    rw [Bool.false_or]
    by_cases h1 : 0 ≤ d
    · by_cases h2 : d ≤ f
      · by_cases h3 : f ≤ 4294967295
        · by_cases h4 : s = 1
          · have t4 : (s == 1) = true := by simp [h4]
            rw [show decide (0 ≤ d ∧ d ≤ f ∧ f ≤ 4294967295 ∧ (s = 1 ∨ s = 2)) = true from by simp [h1, h2, h3, h4]]
            clear h4
            go_enter Try.func125, Try.ntmps125
            go_wp2_with fail
            go_ret
            exact ⟨rfl, H.garbage _⟩
          · have t4 : (s == 1) = false := by simp [h4]
            rw [show decide (0 ≤ d ∧ d ≤ f ∧ f ≤ 4294967295 ∧ (s = 1 ∨ s = 2)) = (s == 2) from by rw [Bool.eq_iff_iff]; simp [h1, h2, h3, h4]]
            clear h4
            go_enter Try.func125, Try.ntmps125
            go_wp2_with fail
            go_ret
            exact ⟨rfl, H.garbage _⟩
        · have t3 : decide (f ≤ 4294967295) = false := by simpa using h3
          rw [show decide (0 ≤ d ∧ d ≤ f ∧ f ≤ 4294967295 ∧ (s = 1 ∨ s = 2)) = false from by simp [h3]]
          go_enter Try.func125, Try.ntmps125
          go_wp2_with fail
          go_ret
          exact ⟨rfl, H.garbage _⟩
      · have t2 : decide (d ≤ f) = false := by simpa using h2
        rw [show decide (0 ≤ d ∧ d ≤ f ∧ f ≤ 4294967295 ∧ (s = 1 ∨ s = 2)) = false from by simp [h2]]
        go_enter Try.func125, Try.ntmps125
        go_wp2_with fail
        go_ret
        exact ⟨rfl, H.garbage _⟩
    · have t1 : decide (0 ≤ d) = false := by simpa using h1
      rw [show decide (0 ≤ d ∧ d ≤ f ∧ f ≤ 4294967295 ∧ (s = 1 ∨ s = 2)) = false from by simp [h1]]
      go_enter Try.func125, Try.ntmps125
      go_wp2_with fail
      go_ret
      exact ⟨rfl, H.garbage _⟩
theorem supPut_spec {w : World} {R : Snap} {L : Asrt} {pt : Nat} {f d s : Int} (H : Holds w R L) (hT : R.blk pt = some (.cells (rowC 256) tabT (0, 0))) (hf : f ≤ 9223372036854775807) (hd : d ≤ 9223372036854775807) (hs : s ≤ 9223372036854775807) :
    Calls Try.prog 123 #[.pointer (some ⟨pt, 0, none⟩), supV f d s] w fun e w' => ∃ o, e = .returned o ∧ Holds w' R (star (rowB o (supPut f d s)) L) := by
  unfold supPut supZero
  have hr : ∀ {w R L}, Holds w R L → Calls Try.prog 125 #[supV f d s] w fun e w' => e = .returned (.bool (supRight f d s)) ∧ Holds w' R L := fun H => supRight_spec H
  cases hc : supRight f d s with
  | false =>
    rw [hc] at hr
    rw [if_neg (by decide)]
    clear hc
    go_enter Try.func123, Try.ntmps123
    go_wp2_with fail
    refine (hr (H.garbage _)).mono ?_
    rintro e w1 ⟨rfl, H1⟩
    go_wp2_with fail
    go_ret
    exact ⟨_, rfl, H1.nilRow _ 1⟩
  | true =>
    rw [hc] at hr
    rw [if_pos rfl]
    clear hc
    cases hz : supEq f d s 0 0 0 with
    | true =>
      rw [if_pos rfl]
      go_enter Try.func123, Try.ntmps123
      go_wp2_with fail
      obtain ⟨R1, le1, H1, hb1⟩ := H.allocR (.cells #[.int .i64 f, .int .i64 d, .int .i64 s] tSuper)
      refine (hr H1).mono ?_
      rintro e w1 ⟨rfl, H2⟩
      obtain ⟨l1, n1, c1⟩ := Holds.frzFacts (H2) hb1
      go_wp2_with fail
      refine (zero_spec H2).mono ?_
      rintro e w3 ⟨v3, rfl, H3⟩
      go_wp2_with fail
      go_ret
      exact ⟨_, rfl, H3.weaken le1⟩
    | false =>
      rw [if_neg (by decide)]
      go_enter Try.func123, Try.ntmps123
      go_wp2_with fail
      obtain ⟨R1, le1, H1, hb1⟩ := H.allocR (.cells #[.int .i64 f, .int .i64 d, .int .i64 s] tSuper)
      generalize w.heap.size = g at hb1 ⊢
      have hT1 := le1.blk _ _ hT
      refine (hr H1).mono ?_
      rintro e w1 ⟨rfl, H2⟩
      clear H H1
      obtain ⟨l1, n1, c1⟩ := Holds.frzFacts (H2) hb1
      go_wp2_with fail
      have H3 : Holds _ R1 (star (wr _ []) L) := wr_shut (((H2.alloc #[.slice none 0 0] 49).nilRow tU8 1).swap)
      refine (num_spec H3 (by decide) (by decide)).mono ?_
      rintro e w4 ⟨rfl, H4⟩
      clear H3 l1 n1 c1
      generalize w1.heap.size = pw at H4 ⊢
      rw [show ([] : List UInt8) ++ nb 1 83 = [83] from by decide] at H4
      obtain ⟨l4, n4, c4⟩ := Holds.frzFacts (H4) hb1
      go_wp2_with fail
      refine (num_spec H4 (by decide) hs).mono ?_
      rintro e w5 ⟨rfl, H5⟩
      clear H4 l4 n4 c4
      obtain ⟨l5, n5, c5⟩ := Holds.frzFacts (H5) hb1
      go_wp2_with fail
      refine (num_spec H5 (by simp [nb_length, show wid 1 = 1 from by decide]) hf).mono ?_
      rintro e w6 ⟨rfl, H6⟩
      clear H5 l5 n5 c5
      obtain ⟨l6, n6, c6⟩ := Holds.frzFacts (H6) hb1
      go_wp2_with fail
      refine (num_spec H6 (by simp [nb_length, show wid 1 = 1 from by decide, show wid 4 = 4 from by decide]) hd).mono ?_
      rintro e w7 ⟨rfl, H7⟩
      clear H6 l6 n6 c6
      go_wp2_with fail
      refine (bytes_spec H7 (by simp [nb_length, show wid 1 = 1 from by decide, show wid 4 = 4 from by decide])).mono ?_
      rintro e w8 ⟨v8, rfl, H8⟩
      clear H7
      obtain ⟨R2, le2, H9, h9⟩ := H8.freezeRow
      go_wp2_with fail
      refine (sseal_spec (p := supP f d s) H9 (le2.blk _ _ hT1) h9).mono ?_
      rintro e w9 ⟨o9, rfl, H10⟩
      go_wp2_with fail
      go_ret
      exact ⟨_, rfl, H10.drop2.weaken (le1.trans le2)⟩
/-- bytes.Equal. -/
theorem bytesEqual_spec {w : World} {u v : Value} {l k : List UInt8} (hu : RdB w.cell? u l) (hv : RdB w.cell? v k) :
    Calls Try.prog 194 #[u, v] w fun e w' => e = .returned (.bool (decide (l = k))) ∧ w = w' := by
  have c1 := convStr hu
  have c2 := convStr hv
  go_enter Try.func194, Try.ntmps194
  go_wp2_with fail
  go_ret
  exact ⟨ret_bool (by rw [Bool.eq_iff_iff]; simp), rfl⟩
end Sh
