/- DiskPlays: the walk. -/
import Derived.Test.YtdkkadpcgemefaaDiskOwnLaw
import Derived.Test.YtdkkadpcgemefaaDiskRef2
set_option linter.unusedVariables false
set_option linter.unusedSimpArgs false
namespace Sh
open Go Go.RowKit Go.Proofs
attribute [local go_sem ↓] Go.wp_at_zero Go.wp_at_succ
set_option maxHeartbeats 1000000
set_option maxRecDepth 100000

theorem spendLeft_bd {left : Int} {dead : Bool} (h : -1 ≤ left ∧ left ≤ 9223372036854775807) : -1 ≤ spendLeft left dead ∧ spendLeft left dead ≤ 9223372036854775807 := by
  unfold spendLeft; split
  · omega
  · exact h
theorem wLeft_bd {n : Nat} {left i : Int} {dead : Bool} {b : List UInt8} (h : -1 ≤ left ∧ left ≤ 9223372036854775807) : -1 ≤ wLeft n left dead i b ∧ wLeft n left dead i b ≤ 9223372036854775807 := by
  unfold wLeft; split
  · exact spendLeft_bd h
  · exact h
theorem diskPlays_walk (W : World) {n : Int} {vl : Value} {l : List Act16} (hn : IntKind.i64.min ≤ n ∧ n ≤ IntKind.i64.max) (hl : Rd W.cell? 5 vl l.length (l.flatMap Act16.cells)) (hg : ∀ a ∈ l, a.Good W.cell?) :
    Calls Try.prog 14 #[.int .i64 n, vl] W fun e w' => e = .returned (.bool true) ∧ Below W.heap.size W w' := by
  have hl0 := hl
  obtain ⟨al, cl, rfl⟩ := hl.form
  go_enter Try.func14, Try.ntmps14
  go_wp2_with fail
  refine (light16 (R := Snap.of W) (Holds.start W) hl0 hg).mono ?_
  rintro e w1 ⟨rfl, H0⟩
  by_cases hlt : isLight16 l = true
  · rw [hlt]
    simp only [isLight16, decide_eq_true_eq] at hlt
    obtain ⟨hb100, hl60⟩ := hlt
    by_cases hn40 : n ≤ 40
    · have tn40 : decide (40 < n) = false := by simpa using hn40
      go_wp2_with fail
      refine (disknew_spec (n := n) H0).mono ?_
      rintro e w2 ⟨pd, rfl, H1⟩
      clear H0
      go_wp2_with fail
      refine (mnew_spec (n := n) H1).mono ?_
      rintro e w3 ⟨pm, rfl, H2⟩
      clear H1
      have hs9 : secN n ≤ 512 := by unfold secN; omega
      generalize secN n = nn at *
      go_wp2_with fail
      go_loopw [23] (fun i wx => ∃ (j : Nat) (S : List (List UInt8)) (left : Int) (dead : Bool), i = .int .i64 j ∧ j ≤ l.length ∧ S.length ≤ 512 ∧ (∀ s ∈ S, s.length = 64) ∧ (-1 ≤ left ∧ left ≤ 9223372036854775807) ∧ Holds wx (Snap.of W) (star (mS pm S left dead) (star (diskS pd S left dead) emp))) (fun i _ => l.length - (intOf i).toNat)
      case atStart => exact ⟨0, zeros nn, -1, false, rfl, Nat.zero_le _, by simpa using hs9, all_zeros, by decide, H2⟩
      case round =>
        clear H2
        obtain ⟨j, S, left, dead, rfl, hj, hS9, hS64, hleft, H3⟩ := hrel
        by_cases hlt : j < l.length
        · obtain ⟨bl, ol, rfl, hx⟩ := rd_elt (f := Act16.cells) (fun _ => rfl) (Rd.world (R := Snap.of W) hl0 H3) (by decide) hlt
          have hgj := hg l[j] (List.getElem_mem hlt)
          generalize l[j] = x at hx hgj
          obtain ⟨xk, xa, xn, xm, xv, xb⟩ := x
          obtain ⟨hxb, hxn, hxm⟩ := hgj
          obtain ⟨ax, cx2, hab⟩ := hxb.form
          simp only at hab hxn hxm
          subst hab
          obtain ⟨mask, hmask⟩ : ∃ mask : Reg, xm = tn mask := ⟨BitVec.ofNat 32 xm.toNat, by
            unfold tn; rw [BitVec.toNat_ofNat, Nat.mod_eq_of_lt (by omega)]; omega⟩
          subst hmask
          have c0 : wr.cell? ⟨bl, ol + j * 5, none⟩ = some (.int .i64 xk) := hx 0 _ (by omega) rfl
          have c1 : wr.cell? ⟨bl, ol + j * 5 + 1, none⟩ = some (.int .i64 xa) := hx 1 _ (by omega) rfl
          have c2 : wr.cell? ⟨bl, ol + j * 5 + 2, none⟩ = some (.int .i64 xn) := hx 2 _ (by omega) rfl
          have c3 : wr.cell? ⟨bl, ol + j * 5 + 3, none⟩ = some (.int .u32 (tn mask)) := hx 3 _ (by omega) rfl
          have c4 : wr.cell? ⟨bl, ol + j * 5 + 4, none⟩ = some (.slice ax xb.length cx2) := hx 4 _ (by omega) rfl
          clear hx
          have HS9 := Hid.mk' hS9
          have HS64 := Hid.mk' hS64
          clear hS64
          go_upto_block 2 with fail
          obtain ⟨R1, le1, H4, hba⟩ := H3.allocR (.cells #[.int .i64 xk, .int .i64 xa, .int .i64 xn, .int .u32 (tn mask), .slice ax xb.length cx2] 79 (0, 0))
          clear H3 c0 c1 c2 c3 c4
          generalize (World.alloc ..) = w4 at H4 ⊢
          generalize wr.heap.size = ba at H4 hba ⊢
          have hxR : RdB R1.cell? (.slice ax xb.length cx2) xb := Rd.le (R := Snap.of W) hxb le1
          go_cut [] (fun wx => ∃ (S : List (List UInt8)) (left : Int) (dead : Bool), S.length ≤ 512 ∧ (∀ s ∈ S, s.length = 64) ∧ (-1 ≤ left ∧ left ≤ 9223372036854775807) ∧ Holds wx R1 (star (mS pm S left dead) (star (diskS pd S left dead) emp)))
          case first =>
            obtain ⟨l4, n4, c4⟩ := Holds.frzFacts (H4) hba
            by_cases k0 : xk = 0
            · subst k0
              go_wp2_with fail
              go_region_held3 (fun w' => (∀ o, w'.cell? ⟨ba, o, none⟩ = #[.int .i64 0, .int .i64 xa, .int .i64 xn, .int .u32 (tn mask), .slice ax xb.length cx2][o]?)) (first | (exact H6.frz hba) | (exact H5.frz hba) | ((repeat' (first | assumption | (with_reducible refine And.intro ?_ ?_) | (with_reducible refine keep_drew ?_) | (with_reducible refine keep_drewN ?_) | (with_reducible refine keep_alloc ?_ (by first | assumption | (simp only [World.size_alloc, World.size_drew, World.size_setCell]; omega))) | (with_reducible refine keep_set ?_ (by first | assumption | omega))))))
                (first | (go_at_call 76; refine (dwrite_spec H4.drew.swap hxR hleft).mono ?_; rintro e w5 ⟨rfl, H5⟩) | (go_at_call 90; refine (mwrite_spec H5.swap HS64.out (by omega) hxR hleft).mono ?_; rintro e w6 ⟨rfl, H6⟩))
              all_goals
                go_wp2_with fail
                go_meet
                case rel => exact ⟨_, _, _, by rw [wS_len]; exact HS9.out, wS_all HS64.out, wLeft_bd hleft, H6⟩
            · have t0 : (xk == 0) = false := by simpa using k0
              by_cases k1 : xk = 1
              · subst k1
                go_wp2_with fail
                refine (dpower_spec H4.swap).mono ?_
                rintro e w5 ⟨rfl, H5⟩
                clear H4 l4 n4 c4
                obtain ⟨l5, n5, c5⟩ := Holds.frzFacts (H5) hba
                go_wp2_with fail
                refine (mpower_spec H5.swap).mono ?_
                rintro e w6 ⟨rfl, H6⟩
                go_wp2_with fail
                go_meet
                case rel => exact ⟨_, _, _, HS9.out, HS64.out, by omega, H6⟩
              · have t1 : (xk == 1) = false := by simpa using k1
                by_cases k2 : xk = 2
                · subst k2
                  go_wp2_with fail
                  go_region_held3 (fun w' => (∀ o, w'.cell? ⟨ba, o, none⟩ = #[.int .i64 2, .int .i64 xa, .int .i64 xn, .int .u32 (tn mask), .slice ax xb.length cx2][o]?)) (first | (exact H6.frz hba) | (exact H5.frz hba) | ((repeat' (first | assumption | (with_reducible refine And.intro ?_ ?_) | (with_reducible refine keep_drew ?_) | (with_reducible refine keep_drewN ?_) | (with_reducible refine keep_alloc ?_ (by first | assumption | (simp only [World.size_alloc, World.size_drew, World.size_setCell]; omega))) | (with_reducible refine keep_set ?_ (by first | assumption | omega))))))
                    (first | (go_at_call 92; refine (drot_spec H4.drew.swap HS64.out hxn.2).mono ?_; rintro e w5 ⟨rfl, H5⟩) | (go_at_call 93; refine (mrot_spec H5.swap HS64.out (by omega) hxn).mono ?_; rintro e w6 ⟨rfl, H6⟩))
                  all_goals
                    go_wp2_with fail
                    go_meet
                    case rel => exact ⟨_, _, _, by rw [rotS_len]; exact HS9.out, rotS_all HS64.out, hleft, H6⟩
                · have t2 : (xk == 2) = false := by simpa using k2
                  by_cases k3 : xk = 3
                  · subst k3
                    go_wp2_with fail
                    refine (dwipe_spec H4.swap (by omega)).mono ?_
                    rintro e w5 ⟨rfl, H5⟩
                    clear H4 l4 n4 c4
                    obtain ⟨a5, c5, H6⟩ := m_open H5.swap
                    have hfl := flatten_len HS64.out
                    obtain ⟨nl, hnl⟩ : ∃ nl, nl = S.flatten.length := ⟨_, rfl⟩
                    have hnl9 : nl ≤ 100000 := by omega
                    have hnz : Hid (List.replicate nl (0 : UInt8) = (zeros S.length).flatten) := Hid.mk' (by
                      rw [hnl, hfl]
                      generalize S.length = m
                      induction m with
                      | zero => rfl
                      | succ m ih => rw [zeros, List.replicate_succ, List.flatten_cons, ← ih, List.replicate_append_replicate, show 64 + 64 * m = 64 * (m + 1) by omega])
                    rw [← hnl] at H6
                    have H6 : Holds w5 R1 (star (blk pm #[.slice a5 nl c5, .int .i64 left, .bool dead] 94) (star (rowB (.slice a5 nl c5) S.flatten) (star (diskS pd (zeros S.length) left dead) emp))) := H6
                    clear hnl hfl H5
                    obtain ⟨l6, n6, c6, z6⟩ := Holds.facts (H6)
                    go_wp2_with (with_reducible refine stop_make ?_)
                    refine Hold.go (wpList_makeB (n := nl) rfl _ _ rfl rfl rfl H6.drop2 (by omega) ?_)
                    intro v7 w7 H7
                    obtain ⟨a7, c7, rfl⟩ := H7.rowRd.form
                    rw [List.length_replicate] at H7 ⊢
                    clear H6 l6 n6 c6 z6
                    obtain ⟨l8, n8, c8, z8⟩ := Holds.facts (H7.swap)
                    go_wp2_with fail
                    go_meet
                    case rel =>
                      refine ⟨zeros S.length, left, dead, by simpa using HS9.out, all_zeros, hleft, m_shut (v := .slice a7 nl c7) ?_⟩
                      rw [← hnz.out]
                      have h := H7.swap.set 0 (.slice a7 nl c7)
                      exact h
                  · have t3 : (xk == 3) = false := by simpa using k3
                    have hsec : (secAt S xa).length ≤ 1000000 := by
                      unfold secAt
                      split
                      · rw [List.getD]
                        cases h : S[xa.toNat]? with
                        | none => simp
                        | some s => simp only [Option.getD_some]; rw [HS64.out s (List.mem_of_getElem? h)]; decide
                      · simp
                    have HS6 : Hid (∀ s ∈ S, s.length ≤ 1000000) := Hid.mk' (fun s hs => by rw [HS64.out s hs]; decide)
                    go_wp2_with fail
                    go_region_held3 (fun w' => (∀ o, w'.cell? ⟨ba, o, none⟩ = #[.int .i64 xk, .int .i64 xa, .int .i64 xn, .int .u32 (tn mask), .slice ax xb.length cx2][o]?)) (first | (exact (H6.drewN _).frz hba) | (exact H6.frz hba) | (exact H5.frz hba) | ((repeat' (first | assumption | (with_reducible refine And.intro ?_ ?_) | (with_reducible refine keep_drew ?_) | (with_reducible refine keep_drewN ?_) | (with_reducible refine keep_alloc ?_ (by first | assumption | (simp only [World.size_alloc, World.size_drew, World.size_setCell]; omega))) | (with_reducible refine keep_set ?_ (by first | assumption | omega))))))
                      (first | (go_at_call 95; refine (dread_spec H4.drew.swap HS6.out).mono ?_; rintro e w5 ⟨o5, rfl, H5⟩) | (go_at_call 96; refine (mread_spec H5.pick3 HS64.out (by omega)).mono ?_; rintro e w6 ⟨o6, rfl, H6⟩) | (go_at_call 40; refine (same_self (H6.pick3).rowRd H6.rowRd hsec).mono ?_; rintro e w7 ⟨rfl, q, rfl⟩))
                    all_goals
                      go_wp2_with fail
                      go_meet
                      case rel => exact ⟨_, _, _, HS9.out, HS64.out, hleft, (H6.drop.drop2.drewN q)⟩
          case rest =>
            clear H4 HS9 HS64 hS9 hleft
            obtain ⟨S2, left2, dead2, hS9, hS64, hleft, H5⟩ := hcut
            obtain ⟨am, cm, H6⟩ := m_open H5
            have hfl := flatten_len hS64
            have HS9 := Hid.mk' hS9
            have HS64 := Hid.mk' hS64
            obtain ⟨F, hF⟩ : ∃ F, F = S2.flatten := ⟨_, rfl⟩
            rw [← hF] at H6 hfl
            have q1 : ∀ q, Calls Try.prog 78 #[.pointer (some ⟨pd, 0, none⟩)] (wc.drewN q) fun e w' => e = .returned (.bool dead2) ∧ w' = wc.drewN q := fun q =>
              (ddead_spec (H5.swap.drewN q)).mono fun e w' h => ⟨h.1, h.2.symm⟩
            obtain ⟨nn2, hnn2⟩ : ∃ nn2, nn2 = S2.length := ⟨_, rfl⟩
            have q2 : ∀ q, Calls Try.prog 97 #[.pointer (some ⟨pd, 0, none⟩)] (wc.drewN q) fun e w' => e = .returned (.int .i64 nn2) ∧ w' = wc.drewN q := fun q => by
              rw [hnn2]; exact (size_spec (H5.swap.drewN q)).mono fun e w' h => ⟨h.1, h.2.symm⟩
            have hq : (F.length : Int).tdiv 64 = (nn2 : Int) := by rw [Int.tdiv_eq_ediv_of_nonneg (by omega)]; omega
            obtain ⟨l6, n6, c6, z6⟩ := Holds.facts (H6)
            have hq2 : (F.length : Int) / 64 = (nn2 : Int) := by omega
            have hnn9 : nn2 ≤ 512 := by omega
            clear hS64 hfl hF hnn2 hS9 H6
            cases dead2
            all_goals
              go_wp2_with fail
              go_quiet (first | (go_at_call 78; exact Calls.quiet_of_same (q1 _)) | (go_at_call 97; exact Calls.quiet_of_same (q2 _)))
              go_wp2_with fail
              go_roundw
              case rel => exact ⟨j + 1, S2, left2, _, by go_num, hlt, HS9.out, HS64.out, hleft, (H5.drewN _).weaken le1⟩
              case measure => simp [intOf]; omega
        · obtain ⟨am, cm, H6⟩ := m_open H3
          have hfl := flatten_len hS64
          have HS64 := Hid.mk' hS64
          obtain ⟨F, hF⟩ : ∃ F, F = S.flatten := ⟨_, rfl⟩
          have HF := Hid.mk' hF
          rw [← hF] at H6 hfl
          have hF9 : F.length ≤ 1000000 := by omega
          have hS91 : S.length ≤ 1000 := by omega
          obtain ⟨l6, n6, c6, z6⟩ := Holds.facts (H6)
          clear hS64 hfl hF hS9 H3
          go_wp2_with fail
          go_region_held3 (fun w' => (∀ o, w'.cell? ⟨pm, o, none⟩ = #[.slice am F.length cm, .int .i64 left, .bool dead][o]?)) (first | (exact H9.pick3.blkCell) | (exact (H7.drewN _).pick3.blkCell) | (exact H7.pick3.blkCell) | ((repeat' (first | assumption | (with_reducible refine And.intro ?_ ?_) | (with_reducible refine keep_drew ?_) | (with_reducible refine keep_drewN ?_) | (with_reducible refine keep_alloc ?_ (by first | assumption | (simp only [World.size_alloc, World.size_drew, World.size_setCell]; omega))) | (with_reducible refine keep_set ?_ (by first | assumption | omega))))))
            (first | (go_at_call 77; refine (dimage_spec H6.drew.pick3 HS64.out hS91).mono ?_; rintro e w7 ⟨v7, rfl, H7⟩; rw [← HF.out] at H7) | (go_at_call 40; refine (same_self H7.rowRd H7.pick4.rowRd hF9).mono ?_; rintro e w8 ⟨rfl, q8, rfl⟩) | (go_at_call 73; refine (alive16 (H7.drewN q8)).mono ?_; rintro e w9 ⟨rfl, H9⟩))
          all_goals
            go_wp2_with fail
            go_ret
            exact ⟨rfl, H9.toBelow (Snap.le.refl _)⟩
    · have tn40 : decide (40 < n) = true := by simp; omega
      go_wp2_with fail
      refine (alive16 H0).mono ?_
      rintro e w2 ⟨rfl, H1⟩
      go_wp2_with fail
      go_ret
      exact ⟨rfl, H1.toBelow (Snap.le.refl _)⟩
  · rw [Bool.not_eq_true] at hlt
    rw [hlt]
    go_wp2_with fail
    refine (alive16 H0).mono ?_
    rintro e w2 ⟨rfl, H1⟩
    go_wp2_with fail
    go_ret
    exact ⟨rfl, H1.toBelow (Snap.le.refl _)⟩
end Sh
