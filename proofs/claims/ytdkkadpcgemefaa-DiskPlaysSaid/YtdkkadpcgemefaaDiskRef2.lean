/- sherdref16's contracts: set, Write, Rot. -/
import Derived.Test.YtdkkadpcgemefaaDiskRef
set_option linter.unusedVariables false
set_option linter.unusedSimpArgs false
namespace Sh
open Go Go.RowKit Go.Proofs
attribute [local go_sem ↓] Go.wp_at_zero Go.wp_at_succ
set_option maxHeartbeats 1000000
set_option maxRecDepth 100000

theorem mix_set {b s : List UInt8} {j : Nat} (hb : b.length = 64) (hs : s.length = 64) (hj : j < 64) : (b.take j ++ s.drop j).set j (b[j]'(by omega)) = b.take (j + 1) ++ s.drop (j + 1) := by
  have hl : (b.take j).length = j := by simp; omega
  rw [List.set_append_right _ _ (by omega), hl, Nat.sub_self, List.drop_eq_getElem_cons (by omega), List.set_cons_zero, List.take_succ_eq_append_getElem (by omega), List.append_assoc]
  rfl
section
variable {w : World} {R : Snap} {L : Asrt} {p : Nat} {S : List (List UInt8)} {left : Int} {dead : Bool}
theorem mset_spec {k : Nat} {v : Value} {b : List UInt8} (H : Holds w R (star (mS p S left dead) L)) (hS : ∀ s ∈ S, s.length = 64) (hl : S.length ≤ 1000) (hk : k < S.length) (hr : RdB R.cell? v b) (hb : b.length = 64) :
    Calls Try.prog 186 #[.pointer (some ⟨p, 0, none⟩), .int .i64 k, v] w fun e w' => e = .returned (.tuple #[]) ∧ Holds w' R (star (mS p (S.set k b) left dead) L) := by
  obtain ⟨a, c, H1⟩ := m_open H
  have hf := flatten_len hS
  obtain ⟨g, cg, ha, hcg, hg, hcell, hfro⟩ := H1.swap.rowAt (by omega)
  simp only [Value.slice.injEq, true_and] at ha
  obtain ⟨rfl, rfl⟩ := ha
  clear hcell hfro
  obtain ⟨ab, cb, rfl⟩ := hr.form
  have hr := RdB.at_len hr hb
  rw [hb]
  obtain ⟨n, hn⟩ : ∃ n, n = 64 * S.length := ⟨_, rfl⟩
  have hfn : S.flatten.length = n := by omega
  have hsk : S[k].length = 64 := hS _ (List.getElem_mem hk)
  have H2 : Holds w R (star (row tU8 1 (.slice (some ⟨g, 0, none⟩) n c) n (u8s (S.set k (b.take 0 ++ S[k].drop 0)).flatten)) (star (blk p #[.slice (some ⟨g, 0, none⟩) n c, .int .i64 left, .bool dead] 94) L)) := by
    have h := H1.swap
    rw [hfn] at h
    rw [List.take_zero, List.nil_append, List.drop_zero, List.set_getElem_self]
    unfold rowB at h
    rw [hfn] at h
    exact h
  have HS := Hid.mk' hS
  have HB := Hid.mk' hb
  have HSK := Hid.mk' hsk
  have HN := Hid.mk' hn
  obtain ⟨m, hm⟩ : ∃ m, m = 64 * k := ⟨_, rfl⟩
  have hmn : m + 64 ≤ n := by omega
  have hn9 : n ≤ 64000 := by omega
  have hme : (64 : Int) * k = (m : Int) := by omega
  have hwm : IntKind.i64.wrap (m : Int) = (m : Int) := IntWalk.i64_in _ (by omega)
  have HM := Hid.mk' hm
  clear hS hb hfn hf H1 H hn hsk hm
  go_enter Try.func186, Try.ntmps186
  go_wp2_with fail
  go_loopw [6] (fun i wx => ∃ j : Nat, i = .int .i64 j ∧ j ≤ 64 ∧ Holds wx R (star (row tU8 1 (.slice (some ⟨g, 0, none⟩) n c) n (u8s (S.set k (b.take j ++ S[k].drop j)).flatten)) (star (blk p #[.slice (some ⟨g, 0, none⟩) n c, .int .i64 left, .bool dead] 94) L))) (fun i _ => 64 - (intOf i).toNat)
  case atStart => exact ⟨0, rfl, Nat.zero_le _, H2⟩
  case round =>
    clear H2
    obtain ⟨j, rfl, hj, H3⟩ := hrel
    by_cases hlt : j < 64
    · obtain ⟨b1, o1, rfl, hc⟩ := RdB.open (n := 64) (cap := cb) (l := b) (hr.world H3) (by rw [HB.out]; decide)
      have cj := hc j (by rw [HB.out]; exact hlt)
      have hmix : Hid ((S.set k (b.take j ++ S[k].drop j)).flatten.set (m + j) (b[j]'(by rw [HB.out]; exact hlt)) = (S.set k (b.take (j + 1) ++ S[k].drop (j + 1))).flatten) := Hid.mk' (by
        have hl2 : (b.take j ++ S[k].drop j).length = 64 := by have h1 := HB.out; have h2 := HSK.out; simp; omega
        rw [HM.out, flat64_set (all_set HS.out hl2) (by simpa using hk) hlt, List.getElem_set_self, mix_set HB.out HSK.out hlt, List.set_set])
      generalize b[j]'(by rw [HB.out]; exact hlt) = x at cj hmix
      obtain ⟨t, ht⟩ : ∃ t, t = m + j := ⟨_, rfl⟩
      have hte : (m : Int) + (j : Int) = (t : Int) := by omega
      have hwt : IntKind.i64.wrap (t : Int) = (t : Int) := IntWalk.i64_in _ (by omega)
      have htn : t < n := by omega
      have i1 : (0 : Int) ≤ (t : Int) := by omega
      have i2 : (t : Int) < (n : Int) := by omega
      have i3 : (0 : Int) ≤ (j : Int) := by omega
      have i4 : (j : Int) < 64 := by omega
      rw [← ht] at hmix
      obtain ⟨g2, cap, e1, hc2, hg2, hcl, hfz⟩ := H3.rowAt (by omega)
      simp only [Value.slice.injEq, true_and] at e1
      obtain ⟨e1, rfl⟩ := e1
      simp only [Option.some.injEq, Addr.mk.injEq, and_true] at e1
      subst e1
      have hlen2 : t < (u8s (S.set k (b.take j ++ S[k].drop j)).flatten).length := by
        have := H3.rowRd.len; omega
      have ct := hcl t _ (List.getElem?_eq_getElem hlen2)
      have ft := hfz t
      have hfin : ∀ w', w' = wr.drew.setCell ⟨g, t, none⟩ (.int .u8 (x.toNat : Int)) → Holds w' R (star (row tU8 1 (.slice (some ⟨g, 0, none⟩) n c) n (u8s (S.set k (b.take (j + 1) ++ S[k].drop (j + 1))).flatten)) (star (blk p #[.slice (some ⟨g, 0, none⟩) n c, .int .i64 left, .bool dead] 94) L)) := by
        rintro w' rfl
        have h := row_write H3.drew t (x.toNat : Int) htn (by have := u8_lt x; omega)
        rw [Int.toNat_natCast, show UInt8.ofNat x.toNat = x by simp, hmix.out] at h
        exact h
      have HF := Hid.mk' hfin
      obtain ⟨l3, n3, c3, z3⟩ := Holds.facts (H3.swap)
      generalize (u8s (S.set k (b.take j ++ S[k].drop j)).flatten)[t] = old at ct
      clear hc hcl hfz hfin ht hlen2
      go_wp2_with fail
      go_still_tail 13, (by kernel_rfl)
      change wpList _ _ _ _ _ wr.drew
      go_wp2_with fail
      go_roundw
      case rel => exact ⟨j + 1, by go_num, hlt, HF.out _ rfl⟩
      case measure => simp [intOf]; omega
    · obtain rfl : j = 64 := by omega
      have e1 : b.take 64 ++ S[k].drop 64 = b := by rw [List.take_of_length_le (by rw [HB.out]; exact Nat.le_refl _), List.drop_of_length_le (by rw [HSK.out]; exact Nat.le_refl _), List.append_nil]
      rw [e1] at H3
      clear e1
      go_wp2_with fail
      go_end0
      refine ⟨rfl, m_shut (v := .slice (some ⟨g, 0, none⟩) n c) ?_⟩
      have e2 : (S.set k b).flatten.length = n := by rw [flatten_len (all_set HS.out HB.out), List.length_set]; exact HN.out.symm
      exact (Holds.toRowB H3 e2).swap
theorem mwrite_spec {i : Int} {v : Value} {b : List UInt8} (H : Holds w R (star (mS p S left dead) L)) (hS : ∀ s ∈ S, s.length = 64) (hl9 : S.length ≤ 1000) (hr : RdB R.cell? v b) (hl : -1 ≤ left ∧ left ≤ 9223372036854775807) :
    Calls Try.prog 90 #[.pointer (some ⟨p, 0, none⟩), .int .i64 i, v] w fun e w' => e = .returned (.bool (wOk S.length left dead i b)) ∧ Holds w' R (star (mS p (wS S left dead i b) (wLeft S.length left dead i b) (wDead S.length left dead i b)) L) := by
  have hr0 := hr
  obtain ⟨ab, cb, rfl⟩ := hr.form
  have HS := Hid.mk' hS
  clear hS
  by_cases h0 : 0 ≤ i ∧ i < S.length
  · have t0 : decide (0 ≤ i ∧ i < S.length) = true := by simpa using h0
    by_cases h1 : b.length = 0 ∨ b.length = 64
    · have e0 : wFit S.length i b = true := by simp only [wFit, decide_eq_true_eq]; exact ⟨h0, h1⟩
      have e1 : wOk S.length left dead i b = spendOk left dead := by simp [wOk, e0]
      simp only [wS, wLeft, wDead, e1, e0, if_true]
      clear e0 e1
      obtain ⟨k, rfl⟩ : ∃ k : Nat, i = k := ⟨i.toNat, by omega⟩
      have hk : k < S.length := by omega
      rw [Int.toNat_natCast]
      have hz : (((b.length : Int) != 0) = false ∧ b = [] ∧ ((b.length : Int) == 0) = true) ∨ (((b.length : Int) != 0) = true ∧ ((b.length : Int) != 64) = false ∧ b.length = 64 ∧ ((b.length : Int) == 0) = false) := by
        rcases h1 with h1 | h1
        · left; exact ⟨by simp [h1], List.eq_nil_of_length_eq_zero h1, by simp [h1]⟩
        · right; simp [h1]
      obtain ⟨am, cm, H1⟩ := m_open H
      clear h0 h1
      by_cases hz0 : left = 0
      · subst hz0
        have e1 : spendOk 0 dead = false := by simp [spendOk]
        have e2 : spendLeft 0 dead = 0 := by simp [spendLeft]
        rw [e1, e2, if_neg (by decide)]
        clear e1 e2
        obtain ⟨l1, n1, c1, z1⟩ := Holds.facts (H1)
        rcases hz with ⟨hz, hb, hz3⟩ | ⟨hz, hz2, hb, hz3⟩
        all_goals
          have HB := Hid.mk' hb
          clear hb
          go_enter Try.func90, Try.ntmps90
          go_wp2_with fail
          refine (is_spec H HS.out hl9).mono ?_
          rintro e w1 ⟨rfl, rfl⟩
          rw [t0]
          go_wp2_with fail
          go_ret
          exact ⟨rfl, m_shut (H1.set 2 (.bool true))⟩
      · have tz : (left == 0) = false := by simpa using hz0
        cases dead with
        | true =>
          have e1 : spendOk left true = false := by simp [spendOk]
          have e2 : spendLeft left true = left := by simp [spendLeft, e1]
          rw [e1, e2, if_neg (by decide)]
          clear e1 e2
          obtain ⟨l1, n1, c1, z1⟩ := Holds.facts (H1)
          rcases hz with ⟨hz, hb, hz3⟩ | ⟨hz, hz2, hb, hz3⟩
          all_goals
            have HB := Hid.mk' hb
            clear hb
            go_enter Try.func90, Try.ntmps90
            go_wp2_with fail
            refine (is_spec H HS.out hl9).mono ?_
            rintro e w1 ⟨rfl, rfl⟩
            rw [t0]
            go_wp2_with fail
            go_ret
            exact ⟨rfl, m_shut H1⟩
        | false =>
          have e1 : spendOk left false = true := by simp [spendOk, hz0]
          rw [e1, if_pos rfl]
          have hcase : ∃ left2, spendLeft left false = left2 ∧ ((0 < left ∧ left2 = left - 1 ∧ decide (0 < left) = true) ∨ (left2 = left ∧ decide (0 < left) = false)) := by
            refine ⟨_, rfl, ?_⟩
            by_cases h1 : 0 < left
            · left; exact ⟨h1, by simp [spendLeft, e1, h1], by simpa using h1⟩
            · right; exact ⟨by simp [spendLeft, h1], by simpa using h1⟩
          obtain ⟨left2, hl2, hcase⟩ := hcase
          rw [hl2]
          have H2 : Hid (0 < left → Holds (w.setCell ⟨p, 1, none⟩ (.int .i64 (left - 1))) R (star (mS p S (left - 1) false) L)) := Hid.mk' fun _ => m_shut (H1.set 1 (.int .i64 (left - 1)))
          clear e1 hl2
          obtain ⟨l1, n1, c1, z1⟩ := Holds.facts (H1)
          rcases hcase with ⟨h1, rfl, tl⟩ | ⟨rfl, tl⟩
          · rcases hz with ⟨hz, hb, hz3⟩ | ⟨hz, hz2, hb, hz3⟩
            · have HB := Hid.mk' hb
              clear hb
              go_enter Try.func90, Try.ntmps90
              go_wp2_with fail
              refine (is_spec H HS.out hl9).mono ?_
              rintro e w1 ⟨rfl, rfl⟩
              rw [t0]
              go_wp2_with (with_reducible refine stop_make ?_)
              refine Hold.go (wpList_makeB (n := 64) rfl _ _ rfl rfl rfl (H2.out h1) (by decide) ?_)
              intro v3 w3 H3
              obtain ⟨R4, le4, H4, hr4⟩ := H3.freezeRow
              go_wp2_with fail
              refine (mset_spec H4 HS.out hl9 hk hr4 (by simp)).mono ?_
              rintro e w5 ⟨rfl, H5⟩
              go_wp2_with fail
              go_ret
              refine ⟨rfl, ?_⟩
              rw [show pad64 b = List.replicate 64 0 from by rw [HB.out]; rfl]
              exact H5.weaken le4
            · have HB := Hid.mk' hb
              clear hb
              go_enter Try.func90, Try.ntmps90
              go_wp2_with fail
              refine (is_spec H HS.out hl9).mono ?_
              rintro e w1 ⟨rfl, rfl⟩
              rw [t0]
              go_wp2_with fail
              refine (mset_spec (H2.out h1) HS.out hl9 hk hr0 HB.out).mono ?_
              rintro e w5 ⟨rfl, H5⟩
              go_wp2_with fail
              go_ret
              refine ⟨rfl, ?_⟩
              rw [show pad64 b = b from by have := HB.out; rw [pad64, List.take_of_length_le (by omega), List.drop_of_length_le (by simp; omega), List.append_nil]]
              exact H5
          · rcases hz with ⟨hz, hb, hz3⟩ | ⟨hz, hz2, hb, hz3⟩
            · have HB := Hid.mk' hb
              clear hb
              go_enter Try.func90, Try.ntmps90
              go_wp2_with fail
              refine (is_spec H HS.out hl9).mono ?_
              rintro e w1 ⟨rfl, rfl⟩
              rw [t0]
              go_wp2_with (with_reducible refine stop_make ?_)
              refine Hold.go (wpList_makeB (n := 64) rfl _ _ rfl rfl rfl H (by decide) ?_)
              intro v3 w3 H3
              obtain ⟨R4, le4, H4, hr4⟩ := H3.freezeRow
              go_wp2_with fail
              refine (mset_spec H4 HS.out hl9 hk hr4 (by simp)).mono ?_
              rintro e w5 ⟨rfl, H5⟩
              go_wp2_with fail
              go_ret
              refine ⟨rfl, ?_⟩
              rw [show pad64 b = List.replicate 64 0 from by rw [HB.out]; rfl]
              exact H5.weaken le4
            · have HB := Hid.mk' hb
              clear hb
              go_enter Try.func90, Try.ntmps90
              go_wp2_with fail
              refine (is_spec H HS.out hl9).mono ?_
              rintro e w1 ⟨rfl, rfl⟩
              rw [t0]
              go_wp2_with fail
              refine (mset_spec H HS.out hl9 hk hr0 HB.out).mono ?_
              rintro e w5 ⟨rfl, H5⟩
              go_wp2_with fail
              go_ret
              refine ⟨rfl, ?_⟩
              rw [show pad64 b = b from by have := HB.out; rw [pad64, List.take_of_length_le (by omega), List.drop_of_length_le (by simp; omega), List.append_nil]]
              exact H5
    · have e0 : wFit S.length i b = false := by simp only [wFit, decide_eq_false_iff_not]; exact fun h => h1 h.2
      have e1 : wOk S.length left dead i b = false := by simp [wOk, e0]
      simp only [wS, wLeft, wDead, e1, e0, if_false, Bool.false_eq_true]
      have h2 : b.length ≠ 0 ∧ b.length ≠ 64 := ⟨fun h => h1 (.inl h), fun h => h1 (.inr h)⟩
      have hz : ((b.length : Int) != 0) = true := by rw [bne_iff_ne]; omega
      have hz2 : ((b.length : Int) != 64) = true := by rw [bne_iff_ne]; omega
      clear e0 e1
      go_enter Try.func90, Try.ntmps90
      go_wp2_with fail
      refine (is_spec H HS.out hl9).mono ?_
      rintro e w1 ⟨rfl, rfl⟩
      rw [t0]
      go_wp2_with fail
      go_ret
      exact ⟨rfl, H⟩
  · have t0 : decide (0 ≤ i ∧ i < S.length) = false := by simpa using h0
    have e0 : wFit S.length i b = false := by simp only [wFit, decide_eq_false_iff_not]; exact fun h => h0 h.1
    have e1 : wOk S.length left dead i b = false := by simp [wOk, e0]
    simp only [wS, wLeft, wDead, e1, e0, if_false, Bool.false_eq_true]
    clear e0 e1
    go_enter Try.func90, Try.ntmps90
    go_wp2_with fail
    refine (is_spec H HS.out hl9).mono ?_
    rintro e w1 ⟨rfl, rfl⟩
    rw [t0]
    go_wp2_with fail
    go_ret
    exact ⟨rfl, H⟩
theorem mrot_spec {i bit : Int} {mask : Reg} (H : Holds w R (star (mS p S left dead) L)) (hS : ∀ s ∈ S, s.length = 64) (hl9 : S.length ≤ 1000) (hbit : -9223372036854775808 ≤ bit ∧ bit ≤ 9223372036854775807) :
    Calls Try.prog 93 #[.pointer (some ⟨p, 0, none⟩), .int .i64 i, .int .i64 bit, .int .u32 (tn mask)] w fun e w' => e = .returned (.bool (rotOk S.length i bit)) ∧ Holds w' R (star (mS p (rotS S i bit mask) left dead) L) := by
  have HS := Hid.mk' hS
  by_cases h0 : 0 ≤ i ∧ i < S.length
  · have t0 : decide (0 ≤ i ∧ i < S.length) = true := by simpa using h0
    by_cases hb0 : 0 ≤ bit
    · have e0 : rotOk S.length i bit = true := by simp only [rotOk, decide_eq_true_eq]; exact ⟨h0.1, h0.2, hb0⟩
      rw [rotS, if_pos e0, e0]
      clear e0
      obtain ⟨k, rfl⟩ : ∃ k : Nat, i = k := ⟨i.toNat, by omega⟩
      have hk : k < S.length := by omega
      rw [Int.toNat_natCast]
      have hsec : (secAt S k).length = 64 := by rw [secAt_nat, List.getD, List.getElem?_eq_getElem hk]; exact hS _ (List.getElem_mem hk)
      clear hS h0
      go_enter Try.func93, Try.ntmps93
      go_wp2_with fail
      refine (is_spec H HS.out hl9).mono ?_
      rintro e w1 ⟨rfl, rfl⟩
      rw [t0]
      go_wp2_with fail
      refine (mread_spec H HS.out hl9).mono ?_
      rintro e w2 ⟨v2, rfl, H2⟩
      obtain ⟨R3, le3, H3, hr3⟩ := H2.freezeRow
      clear H2 H
      go_wp2_with fail
      refine (turn_exact H3 hr3 (by omega) hbit).mono ?_
      rintro e w4 ⟨v4, rfl, H4⟩
      obtain ⟨R5, le5, H5, hr5⟩ := H4.freezeRow
      clear H3 H4
      go_wp2_with fail
      refine (mset_spec H5 HS.out hl9 hk hr5 (by rw [turnL_len]; exact hsec)).mono ?_
      rintro e w6 ⟨rfl, H6⟩
      go_wp2_with fail
      go_ret
      exact ⟨rfl, H6.weaken (le3.trans le5)⟩
    · have e0 : rotOk S.length i bit = false := by simp only [rotOk, decide_eq_false_iff_not]; exact fun h => hb0 h.2.2
      rw [rotS, e0, if_neg (by decide)]
      clear e0 hS
      have tb : decide (bit < 0) = true := by simpa using hb0
      go_enter Try.func93, Try.ntmps93
      go_wp2_with fail
      refine (is_spec H HS.out hl9).mono ?_
      rintro e w1 ⟨rfl, rfl⟩
      rw [t0]
      go_wp2_with fail
      go_ret
      exact ⟨rfl, H⟩
  · have t0 : decide (0 ≤ i ∧ i < S.length) = false := by simpa using h0
    have e0 : rotOk S.length i bit = false := by simp only [rotOk, decide_eq_false_iff_not]; exact fun h => h0 ⟨h.1, h.2.1⟩
    rw [rotS, e0, if_neg (by decide)]
    clear e0 hS
    go_enter Try.func93, Try.ntmps93
    go_wp2_with fail
    refine (is_spec H HS.out hl9).mono ?_
    rintro e w1 ⟨rfl, rfl⟩
    rw [t0]
    go_wp2_with fail
    go_ret
    exact ⟨rfl, H⟩
end
end Sh
