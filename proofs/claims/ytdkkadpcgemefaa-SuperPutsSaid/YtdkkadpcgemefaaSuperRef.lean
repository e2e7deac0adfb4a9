/- sherdref17's contracts. -/
import Derived.Test.YtdkkadpcgemefaaSuperGet
set_option linter.unusedVariables false
set_option linter.unusedSimpArgs false
namespace Sh
open Go Go.RowKit Go.Proofs
attribute [local go_sem ↓] Go.wp_at_zero Go.wp_at_succ
set_option maxHeartbeats 1000000
set_option maxRecDepth 100000

theorem rsupRight_spec {w : World} {R : Snap} {L : Asrt} {f d s : Int} (H : Holds w R L) :
    Calls Try.prog 124 #[supV f d s] w fun e w' => e = .returned (.bool (supRight f d s)) ∧ Holds w' R L := by
  by_cases h0 : s = 0
  · subst h0
    by_cases h1 : f = 0
    · subst h1
      have e1 : supRight 0 d 0 = (d == 0) := by rw [Bool.eq_iff_iff]; simp [supRight, supEq]
      rw [e1]
      clear e1
      go_enter Try.func124, Try.ntmps124
      go_wp2_with fail
      go_ret
      exact ⟨rfl, H.garbage _⟩
    · have e1 : supRight f d 0 = false := by rw [Bool.eq_false_iff]; simp [supRight, supEq, h1]
      have t1 : (f == 0) = false := by simpa using h1
      rw [e1]
      clear e1
      go_enter Try.func124, Try.ntmps124
      go_wp2_with fail
      go_ret
      exact ⟨rfl, H.garbage _⟩
  · have t0 : (s == 0) = false := by simpa using h0
    by_cases h1 : 0 < s
    · by_cases h2 : s < 3
      · by_cases h3 : 0 ≤ d
        · by_cases h4 : d ≤ f
          · by_cases h5 : f < 4294967296
            · have e1 : supRight f d s = true := by simp [supRight]; right; omega
              rw [e1]
              clear e1
              go_enter Try.func124, Try.ntmps124
              go_wp2_with fail
              go_ret
              exact ⟨rfl, H.garbage _⟩
            · have e1 : supRight f d s = false := by rw [Bool.eq_false_iff]; simp [supRight, supEq, h0]; omega
              have t1 : decide (f < 4294967296) = false := by simpa using h5
              rw [e1]
              clear e1
              go_enter Try.func124, Try.ntmps124
              go_wp2_with fail
              go_ret
              exact ⟨rfl, H.garbage _⟩
          · have e1 : supRight f d s = false := by rw [Bool.eq_false_iff]; simp [supRight, supEq, h0]; omega
            have t1 : decide (d ≤ f) = false := by simpa using h4
            rw [e1]
            clear e1
            go_enter Try.func124, Try.ntmps124
            go_wp2_with fail
            go_ret
            exact ⟨rfl, H.garbage _⟩
        · have e1 : supRight f d s = false := by rw [Bool.eq_false_iff]; simp [supRight, supEq, h0]; omega
          have t1 : decide (0 ≤ d) = false := by simpa using h3
          rw [e1]
          clear e1
          go_enter Try.func124, Try.ntmps124
          go_wp2_with fail
          go_ret
          exact ⟨rfl, H.garbage _⟩
      · have e1 : supRight f d s = false := by rw [Bool.eq_false_iff]; simp [supRight, supEq, h0]; omega
        have t1 : decide (s < 3) = false := by simpa using h2
        rw [e1]
        clear e1
        go_enter Try.func124, Try.ntmps124
        go_wp2_with fail
        go_ret
        exact ⟨rfl, H.garbage _⟩
    · have e1 : supRight f d s = false := by rw [Bool.eq_false_iff]; simp [supRight, supEq, h0]; omega
      have t1 : decide (0 < s) = false := by simpa using h1
      rw [e1]
      clear e1
      go_enter Try.func124, Try.ntmps124
      go_wp2_with fail
      go_ret
      exact ⟨rfl, H.garbage _⟩
theorem rsupPut_spec {w : World} {R : Snap} {L : Asrt} {f d s : Int} (H : Holds w R L) (hr : supRight f d s = true) :
    Calls Try.prog 128 #[supV f d s] w fun e w' => ∃ o, e = .returned o ∧ Holds w' R (star (rowB o (supPut f d s)) L) := by
  have hb : f ≤ 4294967295 ∧ d ≤ 4294967295 ∧ ((s = 0 ∧ f = 0 ∧ d = 0) ∨ s = 1 ∨ s = 2) := by
    simp [supRight, supEq] at hr; omega
  obtain ⟨hf, hd, hs⟩ := hb
  rw [supPut, if_pos hr]
  rcases hs with ⟨rfl, rfl, rfl⟩ | hs
  · rw [if_pos (by decide)]
    clear hr
    go_enter Try.func128, Try.ntmps128
    go_wp2_with (with_reducible refine stop_make ?_)
    refine Hold.go (wpList_makeB (n := 64) rfl _ _ rfl rfl rfl (H.garbage _) (by decide) ?_)
    intro v2 w2 H2
    go_wp2_with fail
    go_ret
    exact ⟨_, rfl, H2⟩
  · have hz : supZero f d s = false := by simp [supEq]; omega
    rw [hz, if_neg (by decide)]
    have e2 : supP f d s = ([83, UInt8.ofNat s.toNat] ++ nb 4 f) ++ nb 4 d := by
      rcases hs with rfl | rfl
      · rw [supP, show nb 1 1 = [1] from by decide]; rfl
      · rw [supP, show nb 1 2 = [2] from by decide]; rfl
    have hpl := supP_len f d s
    have t0 : (s == 0) = false := by rcases hs with rfl | rfl <;> rfl
    have hs0 : 0 ≤ s ∧ s ≤ 2 := by omega
    obtain ⟨n, hn⟩ : ∃ n : Nat, n = s.toNat := ⟨_, rfl⟩
    have hsn : s = (n : Int) := by omega
    have hn2 : n ≤ 2 := by omega
    rw [← hn] at e2
    rw [e2] at hpl ⊢
    subst hsn
    obtain ⟨x, hx⟩ : ∃ x, x = UInt8.ofNat n := ⟨_, rfl⟩
    have hxn : (n : Int) = (x.toNat : Int) := by rw [hx]; simp; omega
    rw [← hx] at hpl ⊢
    rw [hxn] at t0 ⊢
    have hx2 : (x.toNat : Int) ≤ 2 := by omega
    have hl4 := nb_length 4 f
    have hl5 := nb_length 4 d
    rw [show wid 4 = 4 from by decide] at hl4 hl5
    clear hr hs hz e2 hn hx hxn hs0 hn2
    go_enter Try.func128, Try.ntmps128
    go_wp2_with fail
    obtain ⟨R1, le1, H1, hb1⟩ := H.allocR (.cells #[.int .i64 f, .int .i64 d, .int .i64 (x.toNat : Int)] tSuper)
    have H2 := blkB (n := 2) (H1.alloc #[.int .u8 83, .int .u8 (x.toNat : Int)] tU8) [83, x] rfl rfl (by simp)
    simp only [World.size_alloc] at H2
    generalize (World.alloc (World.alloc ..) _) = w2 at H2 ⊢
    generalize w.heap.size = g at hb1 H2 ⊢
    refine (refnum_spec (k := 4) (n := f) H2 (by omega)).mono ?_
    rintro e w3 ⟨v3, rfl, H3⟩
    clear H2 H1
    go_wp2_with (with_reducible refine stop_append ?_)
    refine Hold.go (wpList_appendB rfl _ _ rfl rfl rfl H3.swap H3.rowRd (by rw [hl4]; simp) ?_)
    intro v4 w4 H4
    clear H3
    obtain ⟨l4, n4, c4⟩ := Holds.frzFacts (H4) hb1
    go_wp2_with fail
    refine (refnum_spec (k := 4) (n := d) H4 (by omega)).mono ?_
    rintro e w5 ⟨v5, rfl, H5⟩
    clear H4 l4 n4 c4
    go_wp2_with (with_reducible refine stop_append ?_)
    refine Hold.go (wpList_appendB rfl _ _ rfl rfl rfl H5.swap H5.rowRd (by rw [List.length_append, hl5, hl4]; simp) ?_)
    intro v6 w6 H6
    clear H5
    obtain ⟨R7, le7, H7, h7⟩ := H6.freezeRow
    go_wp2_with fail
    refine (rsseal_spec H7 h7 (by rw [hpl]; decide)).mono ?_
    rintro e w8 ⟨o8, rfl, H8⟩
    go_wp2_with fail
    go_ret
    exact ⟨_, rfl, H8.drop2.drop2.weaken (le1.trans le7)⟩
theorem drop10_zero {p : List UInt8} (h : p.length = 60) (hz : ∀ k, 10 ≤ k → k < 60 → p.getD k 0 = 0) : p.drop 10 = List.replicate 50 0 := by
  apply List.ext_getElem
  · simp; omega
  · intro i h1 h2
    simp at h2
    have := hz (10 + i) (by omega) (by omega)
    rw [List.getD, List.getElem?_eq_getElem (by omega)] at this
    rw [List.getElem_drop, List.getElem_replicate]
    simpa using this
theorem drop10_get {p : List UInt8} (h : p.length = 60) (hz : p.drop 10 = List.replicate 50 0) {k : Nat} (h1 : 10 ≤ k) (h2 : k < 60) : p.getD k 0 = 0 := by
  have e : (p.drop 10)[k - 10]? = some 0 := by rw [hz, List.getElem?_replicate, if_pos (by omega)]
  rw [List.getElem?_drop, show 10 + (k - 10) = k by omega] at e
  rw [List.getD, e]; rfl
theorem rsupGet_spec {w : World} {R : Snap} {L : Asrt} {v : Value} {b : List UInt8} (H : Holds w R L) (hr : RdB R.cell? v b) :
    Calls Try.prog 129 #[v] w fun e w' => e = .returned (supRet (supGot b)) ∧ Holds w' R L := by
  have hr0 := hr
  obtain ⟨a, c, rfl⟩ := hr.form
  have hclr : ∀ {w R L}, Holds w R L → RdB R.cell? (.slice a b.length c) b → Calls Try.prog 84 #[.slice a b.length c] w fun e w' => e = .returned (.bool (clearB b)) ∧ w = w' := fun H h => rsclear_spec (h.world H)
  have hopn : ∀ {w R L}, Holds w R L → RdB R.cell? (.slice a b.length c) b → Calls Try.prog 82 #[.slice a b.length c] w fun e w' => ∃ o, e = .returned (.tuple #[o, .bool (openOk b)]) ∧ Holds w' R (star (rowB o (openP b)) L) := fun H h => rsopen_spec H h
  have H0 := H.alloc #[.int .i64 0, .int .i64 0, .int .i64 0] tSuper
  unfold supGot
  cases hc : clearB b with
  | true =>
    rw [if_pos rfl]
    rw [hc] at hclr
    clear hc
    go_enter Try.func129, Try.ntmps129
    go_wp2_with fail
    generalize (World.alloc ..) = w0 at H0 ⊢
    generalize w.heap.size = g0 at H0 ⊢
    refine (hclr H0 hr0).mono ?_
    rintro e w1 ⟨rfl, rfl⟩
    obtain ⟨l1, n1, c1, z1⟩ := Holds.facts (H0)
    go_wp2_with fail
    have H2 := ((H0.set 0 (.int .i64 0)).set 1 (.int .i64 0)).set 2 (.int .i64 0)
    refine bodyPost_ret (results_cell2 rfl _ _ g0 tSuper _ (0, 0) _ rfl H2.blkAt Try.underlying146 rfl (by kernel_rfl)) rfl ?_
    exact ⟨rfl, H2.drop⟩
  | false =>
    rw [if_neg (by decide)]
    rw [hc] at hclr
    clear hc
    cases ho : openOk b with
    | false =>
      rw [Bool.false_and, supAns, if_neg (by decide)]
      rw [ho] at hopn
      clear ho
      go_enter Try.func129, Try.ntmps129
      go_wp2_with fail
      generalize (World.alloc ..) = w0 at H0 ⊢
      generalize w.heap.size = g0 at H0 ⊢
      refine (hclr H0 hr0).mono ?_
      rintro e w1 ⟨rfl, rfl⟩
      go_wp2_with fail
      refine (hopn H0 hr0).mono ?_
      rintro e w2 ⟨o2, rfl, H2⟩
      obtain ⟨l2, n2, c2, z2⟩ := Holds.facts (H2.swap)
      go_wp2_with fail
      have H3 := ((H2.swap.set 0 (.int .i64 0)).set 1 (.int .i64 0)).set 2 (.int .i64 0)
      refine bodyPost_ret (results_cell2 rfl _ _ g0 tSuper _ (0, 0) _ rfl H3.blkAt Try.underlying146 rfl (by kernel_rfl)) rfl ?_
      exact ⟨rfl, H3.drop.drop⟩
    | true =>
      rw [Bool.true_and, sup_same ho]
      rw [ho] at hopn
      have hop : openP b = b.take 60 := by rw [openP, if_pos ho]
      have hl6 : (b.take 60).length = 60 := by have := (open_is ho).1; simp; omega
      rw [hop] at hopn
      clear hop ho
      generalize b.take 60 = p at *
      have hv0 : (valB (p.take 1) : Int) = (p.getD 0 0).toNat := valB_one p
      have hv1 : supS p = ((p.getD 1 0).toNat : Int) := by rw [supS, valB_one]; simp
      have hg0 : ∀ k (h : k < p.length), p[k] = p.getD k 0 := fun k h => by simp [List.getD, h]
      have hS9 := u8_lt (p.getD 1 0)
      have HG0 := Hid.mk' hg0
      have HV1 := Hid.mk' hv1
      have H6 := Hid.mk' hl6
      have hxx : ∃ x0 x1 : UInt8, p.getD 0 0 = x0 ∧ p.getD 1 0 = x1 := ⟨_, _, rfl, rfl⟩
      obtain ⟨x0, x1, hx0, hx1⟩ := hxx
      have HX := Hid.mk' (And.intro hx0 hx1)
      clear hv0 hv1 hg0 hl6 hS9 hx0 hx1
      have hx255 := u8_lt x0
      have hy255 := u8_lt x1
      have no : ∀ q : Bool, refSays p = q → q = false → Calls Try.prog 129 #[.slice a b.length c] w (fun e w' => e = .returned (supRet (false, 0, 0, 0)) ∧ Holds w' R L) → Calls Try.prog 129 #[.slice a b.length c] w (fun e w' => e = .returned (supRet (supAns (refSays p) (supF p) (supD p) (supS p))) ∧ Holds w' R L) := fun q h1 h2 h3 => by rw [h1, h2, supAns, if_neg (by decide)]; exact h3
      by_cases k0 : x0 = 83
      · have t1 : ((x0.toNat : Int) != 83) = false := by rw [k0]; rfl
        by_cases k1 : 1 ≤ (x1.toNat : Int) ∧ (x1.toNat : Int) ≤ 2
        · obtain ⟨k1, k2⟩ := k1
          clear no
          have t2 : decide ((x1.toNat : Int) < 1) = false := by simp; omega
          have t3 : decide (2 < (x1.toNat : Int)) = false := by simp; omega
          have hbad : ∀ k, 10 ≤ k → k < 60 → p.getD k 0 ≠ 0 → refSays p = false := fun k h1 h2 h3 => by
            rw [Bool.eq_false_iff]; simp only [refSays, decide_eq_true_eq, ne_eq]
            intro h; exact h3 (drop10_get H6.out h.2.2.1 h1 h2)
          have hgood : (∀ k, 10 ≤ k → k < 60 → p.getD k 0 = 0) → refSays p = decide (supD p ≤ supF p) := fun h => by
            rw [refSays, Bool.eq_iff_iff]; simp only [decide_eq_true_eq]
            exact ⟨fun h2 => h2.2.2.2, fun h2 => ⟨HX.out.1.trans k0, by rw [HV1.out, HX.out.2]; exact ⟨k1, k2⟩, drop10_zero H6.out h, h2⟩⟩
          have HBAD := Hid.mk' hbad
          have HGOOD := Hid.mk' hgood
          have hv1 : ((x1.toNat : Nat) : Int) = supS p := by rw [HV1.out, HX.out.2]
          have HV2 := Hid.mk' hv1
          clear hbad hgood hv1
          go_enter Try.func129, Try.ntmps129
          go_wp2_with fail
          generalize (World.alloc ..) = w0 at H0 ⊢
          generalize w.heap.size = g0 at H0 ⊢
          refine (hclr H0 hr0).mono ?_
          rintro e w1 ⟨rfl, rfl⟩
          go_wp2_with fail
          refine (hopn H0 hr0).mono ?_
          rintro e w2 ⟨o2, rfl, H2⟩
          clear H0 hclr hopn
          obtain ⟨R3, le3, H4, hr3⟩ := H2.freezeRow
          clear H2
          obtain ⟨a3, c3, rfl⟩ := hr3.form
          obtain ⟨b3, o3, rfl, hcell⟩ := RdB.open (hr3.world H4) (by rw [H6.out]; decide)
          have c0 : w2.cell? ⟨b3, o3, none⟩ = some (.int .u8 (x0.toNat : Int)) := by have h := hcell 0 (by rw [H6.out]; decide); rw [HG0.out, HX.out.1] at h; exact h
          have c1 : w2.cell? ⟨b3, o3 + 1, none⟩ = some (.int .u8 (x1.toNat : Int)) := by have h := hcell 1 (by rw [H6.out]; decide); rw [HG0.out, HX.out.2] at h; exact h
          have HC := Hid.mk' hcell
          have b3l : b3 < w2.heap.size := World.block_lt_of_cell? w2 _ c0
          have b3n : w2.heap.size ≠ b3 := by omega
          clear hcell
          have hr4 := RdB.at_len hr3 H6.out
          rw [H6.out]
          obtain ⟨l4, n4, c4, z4⟩ := Holds.facts (H4)
          go_wp2_with fail
          go_loop [6] (fun i => ∃ j : Nat, i = .int .i64 j ∧ 10 ≤ j ∧ j ≤ 60 ∧ Hid (∀ k, 10 ≤ k → k < j → p.getD k 0 = 0)) (fun i => 60 - (intOf i).toNat)
          case atStart => exact ⟨10, rfl, Nat.le_refl _, by decide, fun k h1 h2 => by omega⟩
          case round =>
            obtain ⟨j, rfl, hj1, hj2, hz⟩ := hrel
            by_cases hlt : j < 60
            · have cj := HC.out j (by rw [H6.out]; exact hlt)
              rw [HG0.out] at cj
              have hbj := HBAD.out j hj1 hlt
              have hzj : p.getD j 0 = 0 → ∀ k, 10 ≤ k → k < j + 1 → p.getD k 0 = 0 := fun h k h1 h2 => by
                rcases Nat.lt_or_ge k j with h3 | h3
                · exact hz.out k h1 h3
                · rw [show k = j by omega]; exact h
              generalize p.getD j 0 = y at cj hbj hzj
              have HB := Hid.mk' hbj
              have HZ := Hid.mk' hzj
              clear hbj hzj
              by_cases hy : y = 0
              · have ty : ((y.toNat : Int) != 0) = false := by rw [hy]; rfl
                have HY := Hid.mk' hy
                clear hy
                go_wp2_with fail
                go_round
                case rel => exact ⟨j + 1, by go_num, by omega, hlt, Hid.mk' (HZ.out HY.out)⟩
                case measure => simp [intOf]; omega
              · have ty : ((y.toNat : Int) != 0) = true := by rw [bne_iff_ne]; intro h; exact hy (UInt8.toNat_inj.1 (by simpa using h))
                have HY := Hid.mk' hy
                clear hy
                go_wp2_with fail
                have H5 := ((H4.set 0 (.int .i64 0)).set 1 (.int .i64 0)).set 2 (.int .i64 0)
                refine bodyPost_ret (results_cell2 rfl _ _ g0 tSuper _ (0, 0) _ rfl H5.blkAt Try.underlying146 rfl (by kernel_rfl)) rfl ?_
                rw [HB.out HY.out, supAns, if_neg (by decide)]
                exact ⟨rfl, H5.drop.weaken le3⟩
            · obtain rfl : j = 60 := by omega
              have hg := HGOOD.out hz.out
              have HG := Hid.mk' hg
              clear hg hlt hj1 hj2 hz l4 n4 c4 z4
              go_wp2_with fail
              have H5 := ((H4.alloc #[.slice (some ⟨b3, o3, none⟩) 60 c3, .int .i64 2, .bool false] 61).alloc #[.int .i64 0, .int .i64 0, .int .i64 (x1.toNat : Int)] tSuper).swap
              simp only [World.size_alloc] at H5
              generalize (World.alloc ..) = w5 at H5 ⊢
              generalize w2.heap.size + 1 = g5 at H5 ⊢
              generalize w2.heap.size = g4 at H5 ⊢
              refine (refrnum_yes (k := 4) (at_ := 2) H5 hr4 (by rw [H6.out]; decide) (by rw [H6.out]; decide)).mono ?_
              rintro e w6 ⟨rfl, H7⟩
              clear H5
              rw [show wid 4 = 4 from by decide] at H7
              rw [show wid 4 = 4 from by decide, show (valB ((p.drop 2).take 4) : Int) = supF p from rfl]
              have hF9 : supF p ≤ 9223372036854775807 := by have := valB_lt ((p.drop 2).take 4); rw [List.length_take] at this; have h2 := Nat.lt_of_lt_of_le this (Nat.pow_le_pow_right (n := 256) (by decide) (Nat.min_le_left 4 _)); unfold supF; omega
              obtain ⟨l7, n7, c7, z7⟩ := Holds.facts (H7.swap)
              go_wp2_with fail
              have H8 := (H7.swap.set 0 (.int .i64 (supF p))).swap
              clear H7 l7 n7 c7 z7
              generalize (World.setCell ..) = w8 at H8 ⊢
              refine (refrnum_yes (k := 4) (at_ := 6) H8 hr4 (by rw [H6.out]; decide) (by rw [H6.out]; decide)).mono ?_
              rintro e w9 ⟨rfl, H9⟩
              clear H8
              rw [show wid 4 = 4 from by decide, show (valB ((p.drop 6).take 4) : Int) = supD p from rfl]
              obtain ⟨l9, n9, c9, z9⟩ := Holds.facts (H9.swap)
              obtain ⟨l10, n10, c10, z10⟩ := Holds.facts (H9.pick3)
              obtain ⟨a1, a2⟩ := Holds.apart H9.swap.swap2
              by_cases hle : supD p ≤ supF p
              · have tl : decide (supF p < supD p) = false := by simp; omega
                go_wp2_with fail
                have H11 := (((H9.swap.set 1 (.int .i64 (supD p))).pick3.set 0 (.int .i64 (supF p))).set 1 (.int .i64 (supD p))).set 2 (.int .i64 (x1.toNat : Int))
                refine bodyPost_ret (results_cell2 rfl _ _ g0 tSuper _ (0, 0) _ rfl H11.blkAt Try.underlying146 rfl (by kernel_rfl)) rfl ?_
                rw [HG.out, show decide (supD p ≤ supF p) = true by simpa using hle, supAns, if_pos rfl, ← HV2.out]
                exact ⟨rfl, H11.drop.drop.drop.weaken le3⟩
              · have tl : decide (supF p < supD p) = true := by simp; omega
                go_wp2_with fail
                have H11 := (((H9.swap.set 1 (.int .i64 (supD p))).pick3.set 0 (.int .i64 0)).set 1 (.int .i64 0)).set 2 (.int .i64 0)
                refine bodyPost_ret (results_cell2 rfl _ _ g0 tSuper _ (0, 0) _ rfl H11.blkAt Try.underlying146 rfl (by kernel_rfl)) rfl ?_
                rw [HG.out, show decide (supD p ≤ supF p) = false by simpa using hle, supAns, if_neg (by decide)]
                exact ⟨rfl, H11.drop.drop.drop.weaken le3⟩
        · refine no _ rfl (by
            rw [Bool.eq_false_iff]; simp only [refSays, decide_eq_true_eq, ne_eq]
            intro h; rw [HV1.out, HX.out.2] at h; exact k1 h.2.1) ?_
          clear no
          have k2 : (x1.toNat : Int) < 1 ∨ (¬ (x1.toNat : Int) < 1 ∧ 2 < (x1.toNat : Int)) := by omega
          rcases k2 with k2 | ⟨k2, k3⟩
          · have t2 : decide ((x1.toNat : Int) < 1) = true := by simpa using k2
            go_enter Try.func129, Try.ntmps129
            go_wp2_with fail
            generalize (World.alloc ..) = w0 at H0 ⊢
            generalize w.heap.size = g0 at H0 ⊢
            refine (hclr H0 hr0).mono ?_
            rintro e w1 ⟨rfl, rfl⟩
            go_wp2_with fail
            refine (hopn H0 hr0).mono ?_
            rintro e w2 ⟨o2, rfl, H2⟩
            clear H0 hclr hopn
            obtain ⟨R3, le3, H4, hr3⟩ := H2.freezeRow
            clear H2
            obtain ⟨a3, c3, rfl⟩ := hr3.form
            obtain ⟨b3, o3, rfl, hcell⟩ := RdB.open (hr3.world H4) (by rw [H6.out]; decide)
            have c0 : w2.cell? ⟨b3, o3, none⟩ = some (.int .u8 (x0.toNat : Int)) := by have h := hcell 0 (by rw [H6.out]; decide); rw [HG0.out, HX.out.1] at h; exact h
            have c1 : w2.cell? ⟨b3, o3 + 1, none⟩ = some (.int .u8 (x1.toNat : Int)) := by have h := hcell 1 (by rw [H6.out]; decide); rw [HG0.out, HX.out.2] at h; exact h
            have HC := Hid.mk' hcell
            have b3l : b3 < w2.heap.size := World.block_lt_of_cell? w2 _ c0
            have b3n : w2.heap.size ≠ b3 := by omega
            clear hcell
            have hr4 := RdB.at_len hr3 H6.out
            rw [H6.out]
            obtain ⟨l4, n4, c4, z4⟩ := Holds.facts (H4)
            go_wp2_with fail
            have H5 := ((H4.set 0 (.int .i64 0)).set 1 (.int .i64 0)).set 2 (.int .i64 0)
            refine bodyPost_ret (results_cell2 rfl _ _ g0 tSuper _ (0, 0) _ rfl H5.blkAt Try.underlying146 rfl (by kernel_rfl)) rfl ?_
            exact ⟨rfl, H5.drop.weaken le3⟩
          · have t2 : decide ((x1.toNat : Int) < 1) = false := by simpa using k2
            have t3 : decide (2 < (x1.toNat : Int)) = true := by simpa using k3
            go_enter Try.func129, Try.ntmps129
            go_wp2_with fail
            generalize (World.alloc ..) = w0 at H0 ⊢
            generalize w.heap.size = g0 at H0 ⊢
            refine (hclr H0 hr0).mono ?_
            rintro e w1 ⟨rfl, rfl⟩
            go_wp2_with fail
            refine (hopn H0 hr0).mono ?_
            rintro e w2 ⟨o2, rfl, H2⟩
            clear H0 hclr hopn
            obtain ⟨R3, le3, H4, hr3⟩ := H2.freezeRow
            clear H2
            obtain ⟨a3, c3, rfl⟩ := hr3.form
            obtain ⟨b3, o3, rfl, hcell⟩ := RdB.open (hr3.world H4) (by rw [H6.out]; decide)
            have c0 : w2.cell? ⟨b3, o3, none⟩ = some (.int .u8 (x0.toNat : Int)) := by have h := hcell 0 (by rw [H6.out]; decide); rw [HG0.out, HX.out.1] at h; exact h
            have c1 : w2.cell? ⟨b3, o3 + 1, none⟩ = some (.int .u8 (x1.toNat : Int)) := by have h := hcell 1 (by rw [H6.out]; decide); rw [HG0.out, HX.out.2] at h; exact h
            have HC := Hid.mk' hcell
            have b3l : b3 < w2.heap.size := World.block_lt_of_cell? w2 _ c0
            have b3n : w2.heap.size ≠ b3 := by omega
            clear hcell
            have hr4 := RdB.at_len hr3 H6.out
            rw [H6.out]
            obtain ⟨l4, n4, c4, z4⟩ := Holds.facts (H4)
            go_wp2_with fail
            have H5 := ((H4.set 0 (.int .i64 0)).set 1 (.int .i64 0)).set 2 (.int .i64 0)
            refine bodyPost_ret (results_cell2 rfl _ _ g0 tSuper _ (0, 0) _ rfl H5.blkAt Try.underlying146 rfl (by kernel_rfl)) rfl ?_
            exact ⟨rfl, H5.drop.weaken le3⟩
      · refine no _ rfl (by
          rw [Bool.eq_false_iff]; simp only [refSays, decide_eq_true_eq, ne_eq]
          intro h; rw [HX.out.1] at h; exact k0 h.1) ?_
        clear no
        have t1 : ((x0.toNat : Int) != 83) = true := by rw [bne_iff_ne]; intro h; exact k0 (UInt8.toNat_inj.1 (by rw [show (83 : UInt8).toNat = 83 from rfl]; omega))
        go_enter Try.func129, Try.ntmps129
        go_wp2_with fail
        generalize (World.alloc ..) = w0 at H0 ⊢
        generalize w.heap.size = g0 at H0 ⊢
        refine (hclr H0 hr0).mono ?_
        rintro e w1 ⟨rfl, rfl⟩
        go_wp2_with fail
        refine (hopn H0 hr0).mono ?_
        rintro e w2 ⟨o2, rfl, H2⟩
        clear H0 hclr hopn
        obtain ⟨R3, le3, H4, hr3⟩ := H2.freezeRow
        clear H2
        obtain ⟨a3, c3, rfl⟩ := hr3.form
        obtain ⟨b3, o3, rfl, hcell⟩ := RdB.open (hr3.world H4) (by rw [H6.out]; decide)
        have c0 : w2.cell? ⟨b3, o3, none⟩ = some (.int .u8 (x0.toNat : Int)) := by have h := hcell 0 (by rw [H6.out]; decide); rw [HG0.out, HX.out.1] at h; exact h
        have c1 : w2.cell? ⟨b3, o3 + 1, none⟩ = some (.int .u8 (x1.toNat : Int)) := by have h := hcell 1 (by rw [H6.out]; decide); rw [HG0.out, HX.out.2] at h; exact h
        have HC := Hid.mk' hcell
        have b3l : b3 < w2.heap.size := World.block_lt_of_cell? w2 _ c0
        have b3n : w2.heap.size ≠ b3 := by omega
        clear hcell
        have hr4 := RdB.at_len hr3 H6.out
        rw [H6.out]
        obtain ⟨l4, n4, c4, z4⟩ := Holds.facts (H4)
        go_wp2_with fail
        have H5 := ((H4.set 0 (.int .i64 0)).set 1 (.int .i64 0)).set 2 (.int .i64 0)
        refine bodyPost_ret (results_cell2 rfl _ _ g0 tSuper _ (0, 0) _ rfl H5.blkAt Try.underlying146 rfl (by kernel_rfl)) rfl ?_
        exact ⟨rfl, H5.drop.weaken le3⟩
end Sh
