/- DiskPower: the walk. -/
import Derived.Test.YtdkkadpcgemefaaDiskLaw
set_option linter.unusedVariables false
set_option linter.unusedSimpArgs false
namespace Sh
open Go Go.RowKit Go.Proofs
attribute [local go_sem ↓] Go.wp_at_zero Go.wp_at_succ
set_option maxHeartbeats 1000000
set_option maxRecDepth 100000

theorem wS_yes {S : List (List UInt8)} {left : Int} {dead : Bool} {i : Int} {b : List UInt8} (h : wOk S.length left dead i b = true) : wS S left dead i b = S.set i.toNat (pad64 b) := by simp [wS, h]
theorem wS_no {S : List (List UInt8)} {left : Int} {dead : Bool} {i : Int} {b : List UInt8} (h : wOk S.length left dead i b = false) : wS S left dead i b = S := by simp [wS, h]
theorem pad64_len {b : List UInt8} (h : b.length ≤ 64) : (pad64 b).length = 64 := by simp [pad64]; omega
theorem all_set {S : List (List UInt8)} {i : Nat} {b : List UInt8} (h : ∀ s ∈ S, s.length = 64) (hb : b.length = 64) : ∀ s ∈ S.set i b, s.length = 64 := by
  intro s hs
  rcases List.mem_or_eq_of_mem_set hs with h1 | h1
  · exact h s h1
  · rw [h1]; exact hb
theorem all_zeros {n : Nat} : ∀ s ∈ zeros n, s.length = 64 := by
  intro s hs
  rw [List.eq_of_mem_replicate hs]; simp
theorem diskPower_walk (W : World) {pw : Int} {vl : Value} {l : List Act16} (hpw : 0 ≤ pw ∧ pw ≤ 255) (hl : Rd W.cell? 5 vl l.length (l.flatMap Act16.cells)) (hg : ∀ a ∈ l, a.Good W.cell?) :
    Calls Try.prog 10 #[.int .u8 pw, vl] W fun e w' => e = .returned (.bool true) ∧ Below W.heap.size W w' := by
  have hl0 := hl
  obtain ⟨al, cl, rfl⟩ := hl.form
  obtain ⟨hp0, hp1⟩ := hpw
  go_enter Try.func10, Try.ntmps10
  go_wp2_with fail
  refine (light16 (R := Snap.of W) (Holds.start W) hl0 hg).mono ?_
  rintro e w1 ⟨rfl, H0⟩
  by_cases hlt : isLight16 l = true
  · rw [hlt]
    simp only [isLight16, decide_eq_true_eq] at hlt
    obtain ⟨hb100, hl60⟩ := hlt
    go_wp2_with fail
    refine (disknew_spec (n := 6) H0).mono ?_
    rintro e w2 ⟨pd, rfl, H1⟩
    clear H0
    go_wp2_with fail
    refine (disknew_spec (n := 6) H1).mono ?_
    rintro e w3 ⟨pm, rfl, H2⟩
    clear H1
    rw [show secN 6 = 6 from by decide] at H2
    go_wp2_with fail
    refine (dpower_spec H2.swap).mono ?_
    rintro e w4 ⟨rfl, H3⟩
    clear H2
    go_wp2_with fail
    go_loopw [7, 22] (fun nn i wx => ∃ (j n : Nat) (S : List (List UInt8)), i = .int .i64 j ∧ nn = .int .i64 n ∧ j ≤ l.length ∧ n ≤ j ∧ S.length = 6 ∧ (∀ s ∈ S, s.length = 64) ∧ Holds wx (Snap.of W) (star (diskS pd S (max (pw - n) 0) (decide (pw < n))) (star (diskS pm S (-1) false) emp))) (fun _ i _ => l.length - (intOf i).toNat)
    case atStart => exact ⟨0, 0, zeros 6, rfl, rfl, Nat.zero_le _, Nat.zero_le _, by simp, all_zeros, by rw [show max (pw - ((0 : Nat) : Int)) 0 = max pw (-1) by omega, show decide (pw < ((0 : Nat) : Int)) = false by simp; omega]; exact H3⟩
    case round =>
      clear H3
      obtain ⟨j, n, S, rfl, rfl, hj, hn, hS6, hS64, H4⟩ := hrel
      by_cases hlt : j < l.length
      · obtain ⟨bl, ol, rfl, hx⟩ := rd_elt (f := Act16.cells) (fun _ => rfl) (Rd.world (R := Snap.of W) hl0 H4) (by decide) hlt
        have hgj := hg l[j] (List.getElem_mem hlt)
        have hgb := hb100 l[j] (List.getElem_mem hlt)
        generalize l[j] = x at hx hgj hgb
        obtain ⟨xk, xa, xn, xm, xv, xb⟩ := x
        obtain ⟨hxb, _⟩ := hgj
        obtain ⟨ab, cb, hab⟩ := hxb.form
        simp only at hab hgb
        subst hab
        have c0 : wr.cell? ⟨bl, ol + j * 5, none⟩ = some (.int .i64 xk) := hx 0 _ (by omega) rfl
        have c1 : wr.cell? ⟨bl, ol + j * 5 + 1, none⟩ = some (.int .i64 xa) := hx 1 _ (by omega) rfl
        have c2 : wr.cell? ⟨bl, ol + j * 5 + 2, none⟩ = some (.int .i64 xn) := hx 2 _ (by omega) rfl
        have c3 : wr.cell? ⟨bl, ol + j * 5 + 3, none⟩ = some (.int .u32 xm) := hx 3 _ (by omega) rfl
        have c4 : wr.cell? ⟨bl, ol + j * 5 + 4, none⟩ = some (.slice ab xb.length cb) := hx 4 _ (by omega) rfl
        clear hx
        have HS6 := Hid.mk' hS6
        have HS64 := Hid.mk' hS64
        clear hS6 hS64
        go_upto_region 9 with fail
        obtain ⟨R1, le1, H5, hba⟩ := H4.allocR (.cells #[.int .i64 xk, .int .i64 xa, .int .i64 xn, .int .u32 xm, .slice ab xb.length cb] 79 (0, 0))
        clear H4 c0 c1 c2 c3 c4
        generalize (World.alloc ..) = w4 at H5 ⊢
        generalize wr.heap.size = ba at H5 hba ⊢
        have hxR : RdB R1.cell? (.slice ab xb.length cb) xb := Rd.le (R := Snap.of W) hxb le1
        obtain ⟨l5, n5, c5⟩ := Holds.frzFacts (H5) hba
        by_cases hfit : (0 ≤ xa ∧ xa < 6) ∧ (xb.length = 0 ∨ xb.length = 64)
        · have fit : wFit S.length xa xb = true := by simp only [wFit, decide_eq_true_eq]; rw [HS6.out]; exact hfit
          obtain ⟨⟨f0, f1⟩, f2⟩ := hfit
          have e2 : wOk S.length (-1) false xa xb = true := by simp [wOk, fit, spendOk]
          have e3 : wLeft S.length (-1) false xa xb = -1 := by simp [wLeft, fit, spendLeft]
          have e4 : wDead S.length (-1) false xa xb = false := by simp [wDead, fit, spendOk]
          have hpad : (pad64 xb).length = 64 := pad64_len (by omega)
          have hz : (((xb.length : Int) != 0) = false) ∨ (((xb.length : Int) != 0) = true ∧ ((xb.length : Int) != 64) = false) := by
            rcases f2 with h1 | h1
            · left; simp [h1]
            · right; simp [h1]
          clear f2
          by_cases hnp : (n : Int) < pw
          · have e5 : max (pw - n) 0 = pw - n := by omega
            have e6 : decide (pw < n) = false := by simp; omega
            have e7 : spendOk (pw - n) false = true := by simp [spendOk]; omega
            have e8 : wOk S.length (pw - n) false xa xb = true := by simp [wOk, fit, e7]
            have e9 : wLeft S.length (pw - n) false xa xb = max (pw - ((n + 1 : Nat) : Int)) 0 := by simp only [wLeft, fit, if_true, spendLeft, e7, true_and]; rw [if_pos (by omega)]; omega
            have e10 : wDead S.length (pw - n) false xa xb = decide (pw < ((n + 1 : Nat) : Int)) := by simp [wDead, fit, e7]; omega
            rw [e5, e6] at H5
            have E2 := Hid.mk' (And.intro e2 (And.intro e3 e4))
            have E8 := Hid.mk' (And.intro e8 (And.intro e9 e10))
            clear e2 e3 e4 e5 e6 e7 e8 e9 e10 fit
            rcases hz with hz | ⟨hz, hz2⟩
            all_goals
              go_wp2_with fail
              refine (dwrite_spec H5 hxR (by omega)).mono ?_
              rintro e w6 ⟨rfl, H6⟩
              rw [E8.out.1]
              rw [wS_yes E8.out.1, E8.out.2.1, E8.out.2.2] at H6
              clear H5 l5 n5 c5
              obtain ⟨l6, n6, c6⟩ := Holds.frzFacts (H6) hba
              go_wp2_with fail
              refine (dwrite_spec H6.swap hxR (by decide)).mono ?_
              rintro e w7 ⟨rfl, H7⟩
              rw [E2.out.1]
              rw [wS_yes E2.out.1, E2.out.2.1, E2.out.2.2] at H7
              clear H6 l6 n6 c6
              go_wp2_with fail
              go_roundw
              case rel => exact ⟨j + 1, n + 1, S.set xa.toNat (pad64 xb), by go_num, by go_num, hlt, by omega, by rw [List.length_set]; exact HS6.out, all_set HS64.out hpad, H7.swap.weaken le1⟩
              case measure => simp [intOf]; omega
          · have e5 : max (pw - n) 0 = 0 := by omega
            have e7 : spendOk 0 (decide (pw < (n : Int))) = false := by simp [spendOk]
            have e8 : wOk S.length 0 (decide (pw < (n : Int))) xa xb = false := by simp [wOk, e7]
            have e9 : wLeft S.length 0 (decide (pw < (n : Int))) xa xb = max (pw - ((n + 1 : Nat) : Int)) 0 := by simp only [wLeft, fit, if_true, spendLeft, e7]; simp; omega
            have e10 : wDead S.length 0 (decide (pw < (n : Int))) xa xb = decide (pw < ((n + 1 : Nat) : Int)) := by simp [wDead, fit, e7]; omega
            rw [e5] at H5
            have E8 := Hid.mk' (And.intro e8 (And.intro e9 e10))
            clear e2 e3 e4 e5 e7 e8 e9 e10 fit
            rcases hz with hz | ⟨hz, hz2⟩
            all_goals
              go_wp2_with fail
              refine (dwrite_spec H5 hxR (by decide)).mono ?_
              rintro e w6 ⟨rfl, H6⟩
              rw [E8.out.1]
              rw [wS_no E8.out.1, E8.out.2.1, E8.out.2.2] at H6
              clear H5 l5 n5 c5
              obtain ⟨l6, n6, c6⟩ := Holds.frzFacts (H6) hba
              go_wp2_with fail
              go_roundw
              case rel => exact ⟨j + 1, n + 1, S, by go_num, by go_num, hlt, by omega, HS6.out, HS64.out, H6.weaken le1⟩
              case measure => simp [intOf]; omega
        · have hno : xa < 0 ∨ (0 ≤ xa ∧ 6 ≤ xa) ∨ ((0 ≤ xa ∧ xa < 6) ∧ xb.length ≠ 0 ∧ xb.length ≠ 64) := by omega
          rcases hno with h1 | ⟨h1, h2⟩ | ⟨⟨h1, h2⟩, h3, h4⟩
          · go_wp2_with fail
            go_roundw
            case rel => exact ⟨j + 1, n, S, by go_num, rfl, hlt, by omega, HS6.out, HS64.out, H5.weaken le1⟩
            case measure => simp [intOf]; omega
          · go_wp2_with fail
            go_roundw
            case rel => exact ⟨j + 1, n, S, by go_num, rfl, hlt, by omega, HS6.out, HS64.out, H5.weaken le1⟩
            case measure => simp [intOf]; omega
          · have hz : ((xb.length : Int) != 0) = true := by rw [bne_iff_ne]; omega
            have hz2 : ((xb.length : Int) != 64) = true := by rw [bne_iff_ne]; omega
            go_wp2_with fail
            go_roundw
            case rel => exact ⟨j + 1, n, S, by go_num, rfl, hlt, by omega, HS6.out, HS64.out, H5.weaken le1⟩
            case measure => simp [intOf]; omega
      · have HS64 := Hid.mk' hS64
        have hfl := flatten_len hS64
        rw [hS6] at hfl
        have hf9 : S.flatten.length ≤ 1000000 := by omega
        have hS7 : S.length ≤ 1000 := by omega
        clear hS64 hfl hS6
        go_wp2_with fail
        refine (dimage_spec H4 HS64.out hS7).mono ?_
        rintro e w5 ⟨v5, rfl, H5⟩
        clear H4
        go_wp2_with fail
        refine (dimage_spec H5.pick3 HS64.out hS7).mono ?_
        rintro e w6 ⟨v6, rfl, H6⟩
        clear H5
        go_wp2_with fail
        refine (same_spec H6.pick3.rowRd H6.rowRd hf9 hf9).mono ?_
        rintro e w7 ⟨rfl, q7, rfl⟩
        rw [show decide (S.flatten = S.flatten) = true from by simp]
        have H7 := H6.pick4.drewN q7
        clear H6
        generalize (World.drewN ..) = w7 at H7 ⊢
        go_wp2_with fail
        refine (ddead_spec H7).mono ?_
        rintro e w8 ⟨rfl, rfl⟩
        go_wp2_with fail
        refine (alive16 H7).mono ?_
        rintro e w9 ⟨rfl, H8⟩
        go_wp2_with fail
        go_ret
        exact ⟨rfl, H8.toBelow (Snap.le.refl _)⟩
  · rw [Bool.not_eq_true] at hlt
    rw [hlt]
    go_wp2_with fail
    refine (alive16 H0).mono ?_
    rintro e w2 ⟨rfl, H1⟩
    go_wp2_with fail
    go_ret
    exact ⟨rfl, H1.toBelow (Snap.le.refl _)⟩
end Sh
