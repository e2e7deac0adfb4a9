/- PackReads: the walk. -/
import Derived.Test.YtdkkadpcgemefaaPackLaw
import Derived.Deep.CutBlock
set_option linter.unusedVariables false
set_option linter.unusedSimpArgs false
namespace Sh
open Go Go.RowKit Go.Proofs
attribute [local go_sem ↓] Go.wp_at_zero Go.wp_at_succ
set_option maxHeartbeats 1000000
set_option maxRecDepth 100000

theorem cutOut_len {l : List UInt8} {bad : Bool} {n : Nat} (h : l.length ≤ 1000000) : (cutOut l bad n).length ≤ 1000000 := by
  unfold cutOut; split <;> simp; omega
theorem packReads_walk (W : World) {vb vl : Value} {b : List UInt8} {l : List Act06} (hb : RdB W.cell? vb b) (hl : Rd W.cell? 4 vl l.length (l.flatMap Act06.cells)) (hg : ∀ a ∈ l, a.Good W.cell?) :
    Calls Try.prog 6 #[vb, vl] W fun e w' => e = .returned (.bool true) ∧ Below W.heap.size W w' := by
  have hl0 := hl
  have hb0 := hb
  obtain ⟨al, cl, rfl⟩ := hl.form
  obtain ⟨ab, cb, rfl⟩ := hb.form
  by_cases hb3 : b.length ≤ 300
  · have t3 : (decide ((300 : Int) < b.length)) = false := by simp; omega
    go_enter Try.func6, Try.ntmps6
    go_wp2_with fail
    refine (light06 hl0 hg).mono ?_
    rintro e w1 ⟨rfl, bel⟩
    have H0 := (Holds.start W).below bel
    by_cases hlt : isLight06 l = true
    · rw [hlt]
      simp only [isLight06, decide_eq_true_eq] at hlt
      obtain ⟨hb300, hl40⟩ := hlt
      go_wp2_with fail
      refine (read_spec H0 hb0).mono ?_
      rintro e w2 ⟨pr, rfl, H1⟩
      clear H0
      go_wp2_with fail
      have H2 := H1.alloc #[.slice ab b.length cb, .int .i64 0, .bool false] 61
      clear H1
      generalize w2.heap.size = pm at H2 ⊢
      generalize (World.alloc ..) = w3 at H2 ⊢
      go_loopw [27] (fun i wx => ∃ (j a : Nat) (bad : Bool) (vr : Value) (R : Snap), i = .int .i64 j ∧ j ≤ l.length ∧ a ≤ b.length ∧ (Snap.of W).le R ∧ RdB R.cell? vr (b.drop a) ∧ Holds wx R (star (blk pm #[.slice ab b.length cb, .int .i64 a, .bool bad] 61) (star (blk pr #[vr, .bool bad] 209) emp))) (fun i _ => l.length - (intOf i).toNat)
      case atStart => exact ⟨0, 0, false, _, _, rfl, Nat.zero_le _, Nat.zero_le _, Snap.le.refl _, hb0, H2⟩
      case round =>
        clear H2
        obtain ⟨j, at_, bad, vr, R0, rfl, hj, hat, le0, hvr, H3⟩ := hrel
        by_cases hlt : j < l.length
        · obtain ⟨bl, ol, rfl, hcl⟩ := hl0.open (by omega)
          have hx : ∀ r u, r < 4 → l[j].cells[r]? = some u → wr.cell? ⟨bl, ol + (j * 4 + r), none⟩ = some u := fun r u hr hu => H3.cell (le0.cell (hcl (j * 4 + r) u (by rw [flat_get _ 4 (fun _ => rfl) _ _ _ hlt hr]; exact hu)))
          have hgj := hg l[j] (List.getElem_mem hlt)
          generalize l[j] = x at hx hgj
          obtain ⟨xk, xK, xn, xv, xb⟩ := x
          obtain ⟨ax, cx, hax⟩ := hgj.1.form
          simp only at hax
          subst hax
          clear hgj
          have c0 : wr.cell? ⟨bl, ol + j * 4, none⟩ = some (.int .i64 xk) := hx 0 _ (by omega) rfl
          have c1 : wr.cell? ⟨bl, ol + j * 4 + 1, none⟩ = some (.int .i64 xK) := hx 1 _ (by omega) rfl
          have c2 : wr.cell? ⟨bl, ol + j * 4 + 2, none⟩ = some (.int .i64 xn) := hx 2 _ (by omega) rfl
          have c3 : wr.cell? ⟨bl, ol + j * 4 + 3, none⟩ = some (.slice ax xb.length cx) := hx 3 _ (by omega) rfl
          clear hx hcl
          have hcl : ∀ n, (cutOut (b.drop at_) bad n).length ≤ 1000000 := fun n => cutOut_len (by simp; omega)
          go_upto_block 2 with fail
          obtain ⟨R1, le1, H4, hba⟩ := H3.allocR (.cells #[.int .i64 xk, .int .i64 xK, .int .i64 xn, .slice ax xb.length cx] 51 (0, 0))
          clear H3 c0 c1 c2 c3
          generalize (World.alloc ..) = w4 at H4 ⊢
          generalize wr.heap.size = ba at H4 hba ⊢
          have hvR : RdB R1.cell? vr (b.drop at_) := Rd.le hvr le1
          have hbR : RdB R1.cell? (.slice ab b.length cb) b := Rd.le (R := Snap.of W) hb0 (le0.trans le1)
          go_cut [] (fun wx => ∃ (a : Nat) (bad : Bool) (vr : Value), a ≤ b.length ∧ RdB R1.cell? vr (b.drop a) ∧ Holds wx R1 (star (blk pm #[.slice ab b.length cb, .int .i64 a, .bool bad] 61) (star (blk pr #[vr, .bool bad] 209) emp)))
          case first =>
            obtain ⟨l4, n4, c4⟩ := Holds.frzFacts (H4) hba
            by_cases k0 : xk = 0
            · subst k0
              go_wp2_with fail
              go_region_held3 (fun w' => (∀ o, w'.cell? ⟨ba, o, none⟩ = #[.int .i64 0, .int .i64 xK, .int .i64 xn, .slice ax xb.length cx][o]?)) (first | (exact (H6.drewN _).frz hba) | (exact H6.frz hba) | (exact H5.frz hba) | ((repeat' (first | assumption | (with_reducible refine And.intro ?_ ?_) | (with_reducible refine keep_drew ?_) | (with_reducible refine keep_drewN ?_) | (with_reducible refine keep_alloc ?_ (by first | assumption | (simp only [World.size_alloc, World.size_drew, World.size_setCell]; omega))) | (with_reducible refine keep_set ?_ (by first | assumption | omega))))))
                (first | (go_at_call 53; refine (rnum_spec H4.drew.swap hvR).mono ?_; rintro e w5 ⟨v5, rfl, H5, hv5⟩) | (go_at_call 54; refine (refrnum_spec H5.swap hbR hat (by omega)).mono ?_; rintro e w6 ⟨rfl, H6⟩))
              all_goals
                go_wp2_with fail
                go_meet
                case rel => exact ⟨_, _, _, cutAt_le hat, by rw [drop_cutAt]; exact hv5, H6⟩
            · by_cases k1 : xk = 1
              · subst k1
                go_wp2_with fail
                go_region_held3 (fun w' => (∀ o, w'.cell? ⟨ba, o, none⟩ = #[.int .i64 1, .int .i64 xK, .int .i64 xn, .slice ax xb.length cx][o]?)) (first | (exact (H6.drewN _).frz hba) | (exact H6.frz hba) | (exact H5.frz hba) | ((repeat' (first | assumption | (with_reducible refine And.intro ?_ ?_) | (with_reducible refine keep_drew ?_) | (with_reducible refine keep_drewN ?_) | (with_reducible refine keep_alloc ?_ (by first | assumption | (simp only [World.size_alloc, World.size_drew, World.size_setCell]; omega))) | (with_reducible refine keep_set ?_ (by first | assumption | omega))))))
                  (first | (go_at_call 55; refine (rraw_spec H4.drew.swap hvR (by simp; omega)).mono ?_; rintro e w5 ⟨o5, v5, rfl, H5, hv5⟩) | (go_at_call 56; refine (refraw_spec H5.pick3 hbR hat (by omega)).mono ?_; rintro e w6 ⟨o6, rfl, H6⟩) | (go_at_call 40; refine (same_spec (H6.pick3).rowRd H6.rowRd (hcl _) (hcl _)).mono ?_; rintro e w7 ⟨rfl, q, rfl⟩))
                all_goals
                  go_wp2_with fail
                  go_meet
                  case rel => exact ⟨_, _, _, cutAt_le hat, by rw [drop_cutAt]; exact hv5, (H6.drop.drop2.drewN q)⟩
              · have t0 : (decide (xk = 0)) = false := by simpa using k0
                have t1 : (decide (xk = 1)) = false := by simpa using k1
                go_wp2_with fail
                refine (rtext_spec H4.swap hvR (by simp; omega)).mono ?_
                rintro e w5 ⟨o5, v5, rfl, H5, hv5⟩
                go_wp2_with fail
                refine (refrtext_spec H5.pick3 hbR hat (by omega)).mono ?_
                rintro e w6 ⟨o6, rfl, H6⟩
                go_wp2_with fail
                refine (same_spec (H6.pick3).rowRd H6.rowRd (cutOut_len (by rw [cutRest]; split <;> simp <;> omega)) (cutOut_len (by rw [cutRest]; split <;> simp <;> omega))).mono ?_
                rintro e w7 ⟨rfl, q, rfl⟩
                go_wp2_with fail
                go_meet
                case rel => exact ⟨_, _, _, cutAt_le (cutAt_le hat), by rw [drop_cutAt, drop_cutAt]; exact hv5, (H6.drop.drop2.drewN q)⟩
          case rest =>
            obtain ⟨a2, bad2, vr2, ha2, hvr2, H5⟩ := hcut
            clear H4
            obtain ⟨l5, n5, c5, z5⟩ := Holds.facts (H5)
            obtain ⟨r2, hr2⟩ : ∃ r2, r2 = b.drop a2 := ⟨_, rfl⟩
            have hlz : (b.length : Int) - a2 = r2.length := by rw [hr2]; simp; omega
            rw [← hr2] at hvr2
            have HR := Hid.mk' hr2
            clear hr2 hvR hbR hcl
            go_wp2_with fail
            try rw [hlz]
            obtain ⟨n2, hn2⟩ : ∃ n2, n2 = r2.length := ⟨_, rfl⟩
            have hz : (n2 = 0 ∧ decide (n2 = 0) = true ∧ decide ((n2 : Int) = 0) = true) ∨ (decide (n2 = 0) = false ∧ decide ((n2 : Int) = 0) = false ∧ ¬ n2 = 0 ∧ ((n2 : Int) == 0) = false) := by
              by_cases h : n2 = 0
              · exact .inl ⟨h, by simp [h], by simp [h]⟩
              · exact .inr ⟨by simp [h], by simp; omega, h, by simp; omega⟩
            rw [← hn2]
            have q1 : ∀ q, Calls Try.prog 59 #[.pointer (some ⟨pr, 0, none⟩)] (wc.drewN q) fun e w' => e = .returned (.int .i64 n2) ∧ w' = wc.drewN q := fun q => by
              rw [hn2]; exact (rleft_spec (H5.swap.drewN q) hvr2).mono fun e w' h => ⟨h.1, h.2.symm⟩
            have q2 : ∀ q, Calls Try.prog 60 #[.pointer (some ⟨pr, 0, none⟩)] (wc.drewN q) fun e w' => e = .returned (.bool (!bad2)) ∧ w' = wc.drewN q := fun q =>
              (rgood_spec (H5.swap.drewN q)).mono fun e w' h => ⟨h.1, h.2.symm⟩
            have q3 : ∀ q, Calls Try.prog 61 #[.pointer (some ⟨pr, 0, none⟩)] (wc.drewN q) fun e w' => e = .returned (.bool (!bad2 && decide (n2 = 0))) ∧ w' = wc.drewN q := fun q => by
              rw [hn2]; exact (rdone_spec (H5.swap.drewN q) hvr2).mono fun e w' h => ⟨h.1, h.2.symm⟩
            have HN := Hid.mk' hn2
            clear hn2 hlz
            rcases hz with ⟨z0, z1, z2⟩ | ⟨z1, z2, z3, z4⟩ <;> cases bad2 <;> simp only [z1, Bool.not_true, Bool.not_false, Bool.and_true, Bool.and_false, Bool.true_and, Bool.false_and] at q2 q3
            all_goals
              go_quiet (first | (go_at_call 59; exact Calls.quiet_of_same (q1 _)) | (go_at_call 60; exact Calls.quiet_of_same (q2 _)) | (go_at_call 61; exact Calls.quiet_of_same (q3 _)))
              go_wp2_with fail
              go_roundw
              case rel => exact ⟨j + 1, a2, _, vr2, R1, by go_num, hlt, ha2, le0.trans le1, HR.out ▸ hvr2, H5.drewN _⟩
              case measure => simp [intOf]; omega
        · clear hl0 hg
          go_wp2_with fail
          refine (rnum_nil _ _).mono ?_
          rintro e w4 ⟨rfl, rfl⟩
          go_wp2_with fail
          refine (rraw_nil H3 _).mono ?_
          rintro e w5 ⟨o5, rfl, H4⟩
          obtain ⟨a5, c5, rfl⟩ := H4.rowRd.form
          clear H3
          go_wp2_with fail
          refine (rleft_nil _).mono ?_
          rintro e w6 ⟨rfl, rfl⟩
          go_wp2_with fail
          refine (rgood_nil _).mono ?_
          rintro e w6 ⟨rfl, rfl⟩
          go_wp2_with fail
          refine (rdone_nil _).mono ?_
          rintro e w6 ⟨rfl, rfl⟩
          go_wp2_with fail
          refine (alive06 H4.drop).mono ?_
          rintro e w6 ⟨rfl, H5⟩
          go_wp2_with fail
          go_ret
          exact ⟨rfl, H5.toBelow le0⟩
    · simp only [Bool.not_eq_true] at hlt
      rw [hlt]
      go_wp2_with fail
      refine (alive06 H0).mono ?_
      rintro e w2 ⟨rfl, H1⟩
      go_wp2_with fail
      go_ret
      exact ⟨rfl, H1.toBelow (Snap.le.refl _)⟩
  · have t3 : (decide ((300 : Int) < b.length)) = true := by simp; omega
    go_enter Try.func6, Try.ntmps6
    go_wp2_with fail
    refine (alive06 (Holds.start W)).mono ?_
    rintro e w2 ⟨rfl, H1⟩
    go_wp2_with fail
    go_ret
    exact ⟨rfl, H1.toBelow (Snap.le.refl _)⟩
end Sh
