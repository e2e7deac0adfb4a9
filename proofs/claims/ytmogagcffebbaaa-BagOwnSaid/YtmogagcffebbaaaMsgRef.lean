/- sherdref25.Right. -/
import Derived.Test.YtmogagcffebbaaaBagMem
set_option linter.unusedVariables false
set_option linter.unusedSimpArgs false
namespace Sh
open Go Go.RowKit Go.Proofs
attribute [local go_sem ↓] Go.wp_at_zero Go.wp_at_succ
set_option maxHeartbeats 1000000
set_option maxRecDepth 100000

theorem inAll_append (hi : Int) (l k : List Int) : inAll hi (l ++ k) = (inAll hi l && inAll hi k) := by simp [inAll]

theorem rright25_spec {w : World} {R : Snap} {L : Asrt} (m : Ms) (H : Holds w R L) (hm : m.Rd R.cell?) (hz : m.Sz) :
    Calls Try.prog 49 #[.agg m.cells.toArray] w fun e w' => e = .returned (.bool (msgOk m)) ∧ Holds w' R L := by
  obtain ⟨x, hx⟩ : ∃ x, x = msgOk m := ⟨_, rfl⟩
  rw [← hx]
  obtain ⟨kind, from_, to_, ballot, name, attempt, epoch, mark, size, what, vw, vn, vd, who, names, data⟩ := m
  obtain ⟨hw, hn, hd⟩ := hm
  obtain ⟨z1, z2, z3, z4, z5⟩ := hz
  simp only at z1 z2 z3 z4 z5 hw hn hd
  obtain ⟨aw, cw, rfl⟩ := hw.form
  obtain ⟨an, cn, rfl⟩ := hn.form
  obtain ⟨ad, cd, rfl⟩ := hd.form
  have HX := Hid.mk' hx
  have HW := Hid.mk' hw
  have HN := Hid.mk' hn
  have hR := rright_spec z1
  have hz1 := z1
  unfold maxLen at hz1
  obtain ⟨R1, le1, H1, hb⟩ := H.allocR (.cells #[.int .i64 kind, .int .i64 from_, .int .i64 to_, .int .i64 ballot, .string name, .int .i64 attempt, .int .i64 epoch, .int .i64 mark, .int .i64 size, .int .i64 what, .slice aw who.length cw, .slice an names.length cn, .slice ad data.length cd] tMsg (0, 0))
  clear hw hn hd hx H
  show Calls _ _ #[.agg #[.int .i64 kind, .int .i64 from_, .int .i64 to_, .int .i64 ballot, .string name, .int .i64 attempt, .int .i64 epoch, .int .i64 mark, .int .i64 size, .int .i64 what, .slice aw who.length cw, .slice an names.length cn, .slice ad data.length cd]] _ _
  have H2 : Holds _ R1 (star (row tInt 1 _ 4 _) L) := (H1.alloc #[.int .i64 ballot, .int .i64 attempt, .int .i64 epoch, .int .i64 mark] tInt).toRow 1 4 4 (Nat.le_refl _) (by decide) rfl
  obtain ⟨l1, n1, c1⟩ := Holds.frzFacts (H1) hb
  simp only [World.size_alloc] at H2
  go_enter Try.func49, Try.ntmps49
  go_wp2_with (with_reducible refine stop_append ?_)
  refine Hold.go (wpList_append rfl _ _ rfl undInts infoInt rfl (by decide) rfl rfl H2 (Rd.world (Rd.le HW.out le1) H2) (ints_one _) (by simp only [maxLen]; omega) (by omega) ?_)
  intro v3 w3 H3
  clear H2 l1 n1 c1 H1
  obtain ⟨R2, le2, H4, hr4⟩ := H3.freezeRow
  obtain ⟨l4, hl4⟩ : ∃ l4, l4 = [ballot, attempt, epoch, mark] ++ who := ⟨_, rfl⟩
  have hr4 : RdI R2.cell? v3 l4 := by
    have e : l4.length = 4 + who.length := by rw [hl4]; simp; omega
    show Rd R2.cell? 1 v3 l4.length _
    rw [e, hl4, List.map_append]; exact hr4
  obtain ⟨a4, c4, rfl⟩ := hr4.form
  have HR4 := Hid.mk' hr4
  have HL4 : Hid (inAll 4294967295 l4 = (inAll 4294967295 [ballot, attempt, epoch, mark] && inAll 4294967295 who)) := Hid.mk' (by rw [hl4, inAll_append])
  have hl49 : l4.length ≤ 1000004 := by rw [hl4]; simp; omega
  obtain ⟨n, hn⟩ : ∃ n, n = l4.length := ⟨_, rfl⟩
  rw [← hn] at hl49 ⊢
  have HNN := Hid.mk' hn
  have hb2 := le2.blk _ _ hb
  clear hn hl4 H3 hr4
  go_wp2_with fail
  go_loopw [4] (fun i wx => ∃ j : Nat, i = .int .i64 j ∧ j ≤ n ∧ Hid (∀ k (h : k < l4.length), k < j → inOne 4294967295 l4[k] = true) ∧ Holds wx R2 L) (fun i _ => n - (intOf i).toNat)
  case atStart => exact ⟨0, rfl, Nat.zero_le _, Hid.mk' (fun k _ h => absurd h (Nat.not_lt_zero k)), H4⟩
  case round =>
    clear H4
    obtain ⟨j, rfl, hj, hA, H5⟩ := hrel
    by_cases hlt : j < n
    · have hjl : j < l4.length := by rw [← HNN.out]; exact hlt
      obtain ⟨b1, o1, ha, hc⟩ := rdI_at (Rd.world HR4.out H5) hjl
      subst ha
      obtain ⟨y, hy⟩ : ∃ y, y = l4[j] := ⟨_, rfl⟩
      rw [← hy] at hc
      have HY := Hid.mk' hy
      clear hy
      have bad : Hid (inOne 4294967295 y = false → x = false) := Hid.mk' (fun h => by
        have h2 := HL4.out
        rw [inAll, all_take (inOne 4294967295) l4 j hjl (by rw [← HY.out]; exact h)] at h2
        rw [HX.out]
        have h3 : (inAll 4294967295 [ballot, attempt, epoch, mark] && inAll 4294967295 who) = false := h2.symm
        simp only [msgOk, Bool.and_assoc]
        rcases Bool.and_eq_false_iff.1 h3 with h | h <;> simp [h])
      by_cases y0 : y < 0
      · have t0 : decide (y < 0) = true := by simpa using y0
        go_wp2_with fail
        go_ret
        exact ⟨ret_bool (bad.out (by simp [inOne]; omega)).symm, H5.weaken (le1.trans le2)⟩
      · have t0 : decide (y < 0) = false := by simpa using y0
        by_cases y1 : 4294967295 < y
        · have t1 : decide (4294967295 < y) = true := by simpa using y1
          go_wp2_with fail
          go_ret
          exact ⟨ret_bool (bad.out (by simp [inOne]; omega)).symm, H5.weaken (le1.trans le2)⟩
        · have t1 : decide (4294967295 < y) = false := by simpa using y1
          go_wp2_with fail
          go_roundw
          case rel =>
            refine ⟨j + 1, by go_num, hlt, Hid.mk' (fun k h1 h2 => ?_), H5⟩
            rcases Nat.lt_or_ge k j with h3 | h3
            · exact hA.out k h1 h3
            · obtain rfl : k = j := by omega
              rw [← HY.out]; simp [inOne]; omega
          case measure => simp [intOf]; omega
    · have A1 : Hid (inAll 4294967295 [ballot, attempt, epoch, mark] = true ∧ inAll 4294967295 who = true) := Hid.mk' (by
        have h := all_upto (inOne 4294967295) l4 (fun k hk => hA.out k hk (by have := HNN.out; omega))
        have h2 := HL4.out
        rw [inAll, h] at h2
        exact Bool.and_eq_true_iff.1 h2.symm)
      clear hA
      obtain ⟨k9, hk9⟩ : ∃ k9, k9 = names.length := ⟨_, rfl⟩
      have HK9 := Hid.mk' hk9
      have hb2' : R2.blk w.heap.size = some (.cells #[.int .i64 kind, .int .i64 from_, .int .i64 to_, .int .i64 ballot, .string name, .int .i64 attempt, .int .i64 epoch, .int .i64 mark, .int .i64 size, .int .i64 what, .slice aw who.length cw, .slice an k9 cn, .slice ad data.length cd] tMsg (0, 0)) := by rw [hk9]; exact hb2
      rw [← hk9] at z4
      clear hk9 hb2
      go_wp2_with fail
      go_loopw [5] (fun i wx => ∃ j : Nat, i = .int .i64 j ∧ j ≤ k9 ∧ Hid (∀ k (h : k < names.length), k < j → nameOk names[k] = true) ∧ Holds wx R2 L) (fun i _ => k9 - (intOf i).toNat)
      case atStart => exact ⟨0, rfl, Nat.zero_le _, Hid.mk' (fun k _ h => absurd h (Nat.not_lt_zero k)), H5⟩
      case round =>
        clear H5
        obtain ⟨i, rfl, hi, hB, H6⟩ := hrel
        obtain ⟨l6, n6, c6⟩ := Holds.frzFacts (H6) hb2'
        by_cases hlt2 : i < k9
        · have hil : i < names.length := by rw [← HK9.out]; exact hlt2
          obtain ⟨b1, o1, ha, hc⟩ := rdS_at (Rd.world (Rd.le HN.out (le1.trans le2)) H6) hil
          subst ha
          have hsy := z2 names[i] (List.getElem_mem hil)
          obtain ⟨y, hy⟩ : ∃ y, y = names[i] := ⟨_, rfl⟩
          rw [← hy] at hc hsy
          have HY := Hid.mk' hy
          clear hy
          have hRy := rright_spec hsy
          go_wp2_with fail
          refine (hRy _).mono ?_
          rintro e w7 ⟨rfl, rfl⟩
          cases hok : nameOk y with
          | true =>
            go_wp2_with fail
            go_roundw
            case rel =>
              refine ⟨i + 1, by go_num, hlt2, Hid.mk' (fun k h1 h2 => ?_), H6⟩
              rcases Nat.lt_or_ge k i with h3 | h3
              · exact hB.out k h1 h3
              · obtain rfl : k = i := by omega
                rw [← HY.out]; exact hok
            case measure => simp [intOf]; omega
          | false =>
            go_wp2_with fail
            go_ret
            refine ⟨ret_bool ?_, H6.weaken (le1.trans le2)⟩
            symm
            rw [HX.out]
            simp only [msgOk, all_take nameOk names i hil (by rw [← HY.out]; exact hok), Bool.and_false, Bool.false_and]
        · have B1 : Hid (names.all nameOk = true) := Hid.mk' (all_upto nameOk names (fun k hk => hB.out k hk (by have := HK9.out; omega)))
          clear hB
          have end_ : Holds wr R L := H6.weaken (le1.trans le2)
          have fin : Hid (x = (decide (0 ≤ from_) && decide (from_ ≤ 256) && decide (0 ≤ to_) && decide (to_ ≤ 256) && decide (from_ ≠ to_) && decide (0 ≤ what) && decide (what ≤ 255) && (decide (1 ≤ kind) && decide (kind ≤ 25) && decide (0 ≤ size) && decide (size ≤ 240) && decide ((who.length : Int) ≤ 255) && decide ((k9 : Int) ≤ 8) && decide ((data.length : Int) ≤ 240) && (decide (name.size = 0) || nameOk name)))) := Hid.mk' (by
            rw [HX.out, HK9.out]
            simp only [msgOk, A1.out.1, A1.out.2, B1.out]
            simp only [inAll, inOne, List.all_cons, List.all_nil, Bool.and_true]
            have h1 : decide ((0 : Int) ≤ (data.length : Int)) = true := by simp
            have h2 : decide ((0 : Int) ≤ (who.length : Int)) = true := by simp
            have h3 : decide ((names.length : Int) ≤ 8) = decide (names.length ≤ 8) := by congr 1; apply propext; omega
            rw [h1, h2, h3]
            simp only [Bool.true_and]
            ac_rfl)
          by_cases q1 : from_ < 0
          · have u1 : decide (from_ < 0) = true := by simp; omega
            have g1 : decide (0 ≤ from_) = false := by simp; omega
            have G1 := Hid.mk' g1
            clear g1 q1
            go_wp2_with fail
            go_ret
            exact ⟨ret_bool (by rw [fin.out]; simp only [G1.out, Bool.and_false, Bool.false_and]), end_⟩
          have u1 : decide (from_ < 0) = false := by simp; omega
          have g1 : decide (0 ≤ from_) = true := by simp; omega
          have G1 := Hid.mk' g1
          clear g1 q1
          by_cases q2 : 256 < from_
          · have u2 : decide (256 < from_) = true := by simp; omega
            have g2 : decide (from_ ≤ 256) = false := by simp; omega
            have G2 := Hid.mk' g2
            clear g2 q2
            go_wp2_with fail
            go_ret
            exact ⟨ret_bool (by rw [fin.out]; simp only [G2.out, Bool.and_false, Bool.false_and]), end_⟩
          have u2 : decide (256 < from_) = false := by simp; omega
          have g2 : decide (from_ ≤ 256) = true := by simp; omega
          have G2 := Hid.mk' g2
          clear g2 q2
          by_cases q3 : to_ < 0
          · have u3 : decide (to_ < 0) = true := by simp; omega
            have g3 : decide (0 ≤ to_) = false := by simp; omega
            have G3 := Hid.mk' g3
            clear g3 q3
            go_wp2_with fail
            go_ret
            exact ⟨ret_bool (by rw [fin.out]; simp only [G3.out, Bool.and_false, Bool.false_and]), end_⟩
          have u3 : decide (to_ < 0) = false := by simp; omega
          have g3 : decide (0 ≤ to_) = true := by simp; omega
          have G3 := Hid.mk' g3
          clear g3 q3
          by_cases q4 : 256 < to_
          · have u4 : decide (256 < to_) = true := by simp; omega
            have g4 : decide (to_ ≤ 256) = false := by simp; omega
            have G4 := Hid.mk' g4
            clear g4 q4
            go_wp2_with fail
            go_ret
            exact ⟨ret_bool (by rw [fin.out]; simp only [G4.out, Bool.and_false, Bool.false_and]), end_⟩
          have u4 : decide (256 < to_) = false := by simp; omega
          have g4 : decide (to_ ≤ 256) = true := by simp; omega
          have G4 := Hid.mk' g4
          clear g4 q4
          by_cases q5 : from_ = to_
          · have u5 : (from_ == to_) = true := by simpa using q5
            have g5 : decide (from_ ≠ to_) = false := by simpa using q5
            have G5 := Hid.mk' g5
            clear g5 q5
            go_wp2_with fail
            go_ret
            exact ⟨ret_bool (by rw [fin.out]; simp only [G5.out, Bool.and_false, Bool.false_and]), end_⟩
          have u5 : (from_ == to_) = false := by simpa using q5
          have g5 : decide (from_ ≠ to_) = true := by simpa using q5
          have G5 := Hid.mk' g5
          clear g5 q5
          by_cases q6 : what < 0
          · have u6 : decide (what < 0) = true := by simp; omega
            have g6 : decide (0 ≤ what) = false := by simp; omega
            have G6 := Hid.mk' g6
            clear g6 q6
            go_wp2_with fail
            go_ret
            exact ⟨ret_bool (by rw [fin.out]; simp only [G6.out, Bool.and_false, Bool.false_and]), end_⟩
          have u6 : decide (what < 0) = false := by simp; omega
          have g6 : decide (0 ≤ what) = true := by simp; omega
          have G6 := Hid.mk' g6
          clear g6 q6
          by_cases q7 : 255 < what
          · have u7 : decide (255 < what) = true := by simp; omega
            have g7 : decide (what ≤ 255) = false := by simp; omega
            have G7 := Hid.mk' g7
            clear g7 q7
            go_wp2_with fail
            go_ret
            exact ⟨ret_bool (by rw [fin.out]; simp only [G7.out, Bool.and_false, Bool.false_and]), end_⟩
          have u7 : decide (255 < what) = false := by simp; omega
          have g7 : decide (what ≤ 255) = true := by simp; omega
          have G7 := Hid.mk' g7
          clear g7 q7
          by_cases q8 : ¬ (1 ≤ kind)
          · have u8 : decide (1 ≤ kind) = false := by simp; omega
            have g8 : decide (1 ≤ kind) = false := by simp; omega
            have G8 := Hid.mk' g8
            clear g8 q8
            go_wp2_with fail
            go_ret
            exact ⟨ret_bool (by rw [fin.out]; simp only [G8.out, Bool.and_false, Bool.false_and]), end_⟩
          have u8 : decide (1 ≤ kind) = true := by simp; omega
          have g8 : decide (1 ≤ kind) = true := by simp; omega
          have G8 := Hid.mk' g8
          clear g8 q8
          by_cases q9 : ¬ (kind ≤ 25)
          · have u9 : decide (kind ≤ 25) = false := by simp; omega
            have g9 : decide (kind ≤ 25) = false := by simp; omega
            have G9 := Hid.mk' g9
            clear g9 q9
            go_wp2_with fail
            go_ret
            exact ⟨ret_bool (by rw [fin.out]; simp only [G9.out, Bool.and_false, Bool.false_and]), end_⟩
          have u9 : decide (kind ≤ 25) = true := by simp; omega
          have g9 : decide (kind ≤ 25) = true := by simp; omega
          have G9 := Hid.mk' g9
          clear g9 q9
          by_cases q10 : ¬ (0 ≤ size)
          · have u10 : decide (0 ≤ size) = false := by simp; omega
            have g10 : decide (0 ≤ size) = false := by simp; omega
            have G10 := Hid.mk' g10
            clear g10 q10
            go_wp2_with fail
            go_ret
            exact ⟨ret_bool (by rw [fin.out]; simp only [G10.out, Bool.and_false, Bool.false_and]), end_⟩
          have u10 : decide (0 ≤ size) = true := by simp; omega
          have g10 : decide (0 ≤ size) = true := by simp; omega
          have G10 := Hid.mk' g10
          clear g10 q10
          by_cases q11 : ¬ (size ≤ 240)
          · have u11 : decide (size ≤ 240) = false := by simp; omega
            have g11 : decide (size ≤ 240) = false := by simp; omega
            have G11 := Hid.mk' g11
            clear g11 q11
            go_wp2_with fail
            go_ret
            exact ⟨ret_bool (by rw [fin.out]; simp only [G11.out, Bool.and_false, Bool.false_and]), end_⟩
          have u11 : decide (size ≤ 240) = true := by simp; omega
          have g11 : decide (size ≤ 240) = true := by simp; omega
          have G11 := Hid.mk' g11
          clear g11 q11
          by_cases q12 : ¬ ((who.length : Int) ≤ 255)
          · have u12 : decide ((who.length : Int) ≤ 255) = false := by simp; omega
            have g12 : decide ((who.length : Int) ≤ 255) = false := by simp; omega
            have G12 := Hid.mk' g12
            clear g12 q12
            go_wp2_with fail
            go_ret
            exact ⟨ret_bool (by rw [fin.out]; simp only [G12.out, Bool.and_false, Bool.false_and]), end_⟩
          have u12 : decide ((who.length : Int) ≤ 255) = true := by simp; omega
          have g12 : decide ((who.length : Int) ≤ 255) = true := by simp; omega
          have G12 := Hid.mk' g12
          clear g12 q12
          by_cases q13 : ¬ ((k9 : Int) ≤ 8)
          · have u13 : decide ((k9 : Int) ≤ 8) = false := by simp; omega
            have g13 : decide ((k9 : Int) ≤ 8) = false := by simp; omega
            have G13 := Hid.mk' g13
            clear g13 q13
            go_wp2_with fail
            go_ret
            exact ⟨ret_bool (by rw [fin.out]; simp only [G13.out, Bool.and_false, Bool.false_and]), end_⟩
          have u13 : decide ((k9 : Int) ≤ 8) = true := by simp; omega
          have g13 : decide ((k9 : Int) ≤ 8) = true := by simp; omega
          have G13 := Hid.mk' g13
          clear g13 q13
          by_cases q14 : ¬ ((data.length : Int) ≤ 240)
          · have u14 : decide ((data.length : Int) ≤ 240) = false := by simp; omega
            have g14 : decide ((data.length : Int) ≤ 240) = false := by simp; omega
            have G14 := Hid.mk' g14
            clear g14 q14
            go_wp2_with fail
            go_ret
            exact ⟨ret_bool (by rw [fin.out]; simp only [G14.out, Bool.and_false, Bool.false_and]), end_⟩
          have u14 : decide ((data.length : Int) ≤ 240) = true := by simp; omega
          have g14 : decide ((data.length : Int) ≤ 240) = true := by simp; omega
          have G14 := Hid.mk' g14
          clear g14 q14
          have fin2 : Hid (x = (decide (name.size = 0) || nameOk name)) := Hid.mk' (by
            rw [fin.out]
            simp only [G1.out, G2.out, G3.out, G4.out, G5.out, G6.out, G7.out, G8.out, G9.out, G10.out, G11.out, G12.out, G13.out, G14.out, Bool.and_true, Bool.true_and])
          by_cases hs0 : name.size = 0
          · have e1 : ((name.size : Int) == 0) = true := by simp [hs0]
            have S0 := Hid.mk' hs0
            clear hs0
            go_wp2_with fail
            go_ret
            exact ⟨ret_bool (by rw [fin2.out]; simp [S0.out]), end_⟩
          · have e1 : ((name.size : Int) == 0) = false := by rw [beq_eq_false_iff_ne]; omega
            have S0 : Hid (¬ name.size = 0) := Hid.mk' hs0
            clear hs0
            go_wp2_with fail
            refine (hR _).mono ?_
            rintro e w12 ⟨rfl, rfl⟩
            go_wp2_with fail
            go_ret
            exact ⟨ret_bool (by rw [fin2.out]; have h := S0.out; simp [h]), end_⟩
end Sh
