/- label.Get. -/
import Derived.Test.YtmogagcffebbaaaLabelPut
import Derived.Test.YtmogagcffebbaaaMsgMany
import Derived.Laws.EntriesVeiled
set_option linter.unusedVariables false
set_option linter.unusedSimpArgs false
namespace Sh
open Go Go.RowKit Go.Proofs
attribute [local go_sem ↓] Go.wp_at_zero Go.wp_at_succ
set_option maxHeartbeats 1000000
set_option maxRecDepth 100000

theorem get1z_spec (c : Nat) (h : c ≤ 255) (w : World) : Calls Try.prog 199 #[.int .u8 c] w fun e w' => e = .returned (.bool (decide (c ≠ 0))) ∧ w = w' := by
  by_cases h0 : c = 0
  · subst h0
    go_enter Try.func199, Try.ntmps199
    go_wp2_with fail
    go_ret
    exact ⟨rfl, rfl⟩
  · have t0 : ((c : Int) != 0) = true := by simp; omega
    go_enter Try.func199, Try.ntmps199
    go_wp2_with fail
    go_ret
    exact ⟨ret_bool (by simp [h0]), rfl⟩
theorem indexFunc_spec {w : World} {v : Value} {l : List UInt8} (hr : RdB w.cell? v l) :
    Calls Try.prog 200 #[v, .func (.func 199) #[] #[]] w fun e w' => (∃ k : Int, e = .returned (.int .i64 k) ∧ -1 ≤ k ∧ k ≤ 9223372036854775807 ∧ (l.all (fun c => decide (c = 0)) = true → k < 0)) ∧ w = w' := by
  have hmx := hr.max
  unfold maxLen at hmx
  obtain ⟨a, c, rfl⟩ := hr.form
  obtain ⟨n, hn⟩ : ∃ n, n = l.length := ⟨_, rfl⟩
  rw [← hn] at hmx ⊢
  have HN := Hid.mk' hn
  have HR := Hid.mk' hr
  clear hn hr
  go_enter Try.func200, Try.ntmps200
  go_wp2_with fail
  go_loop [8] (fun i => ∃ j : Nat, i = .int .i64 j ∧ j ≤ n ∧ Hid (∀ k (h : k < l.length), k < j → l[k] = 0)) (fun i => n - (intOf i).toNat)
  case atStart => exact ⟨0, rfl, Nat.zero_le _, Hid.mk' (fun k _ h => absurd h (Nat.not_lt_zero k))⟩
  case round =>
    obtain ⟨j, rfl, hj, hA⟩ := hrel
    by_cases hlt : j < n
    · have d1 : decide ((j : Int) < (n : Int)) = true := by simp; omega
      have hjl : j < l.length := by rw [← HN.out]; exact hlt
      obtain ⟨b1, o1, ha, hc⟩ := RdB.open HR.out (by omega)
      subst ha
      have hcj := hc j hjl
      obtain ⟨y, hy⟩ : ∃ y, y = l[j] := ⟨_, rfl⟩
      rw [← hy] at hcj
      have HY := Hid.mk' hy
      have hx := u8_lt y
      obtain ⟨z, hz⟩ : ∃ z, z = y.toNat := ⟨_, rfl⟩
      rw [← hz] at hcj hx
      have HZ := Hid.mk' hz
      have i1 : (0 : Int) ≤ (j : Int) := by omega
      have i2 : (j : Int) < (n : Int) := by omega
      clear hc hy hz
      go_wp2_with fail
      refine (get1z_spec z (by omega) _).mono ?_
      rintro e w4 ⟨rfl, rfl⟩
      by_cases h0 : z = 0
      · rw [decide_eq_false (by simpa using h0)]
        go_wp2_with fail
        go_round
        case rel =>
          refine ⟨j + 1, by go_num, hlt, Hid.mk' (fun k h1 h2 => ?_)⟩
          rcases Nat.lt_or_ge k j with h3 | h3
          · exact hA.out k h1 h3
          · obtain rfl : k = j := by omega
            rw [← HY.out]
            apply UInt8.toNat_inj.1
            rw [← HZ.out, h0]; rfl
        case measure => simp [intOf]; omega
      · rw [decide_eq_true (by simpa using h0)]
        have H0 := Hid.mk' h0
        clear h0
        go_wp2_with fail
        go_ret
        refine ⟨⟨_, rfl, by omega, by omega, fun h => ?_⟩, rfl⟩
        have h2 := List.all_eq_true.1 h _ (List.getElem_mem hjl)
        rw [decide_eq_true_eq, ← HY.out] at h2
        exact absurd (by rw [HZ.out, h2]; rfl) H0.out
    · have d1 : decide ((j : Int) < (n : Int)) = false := by simp; omega
      go_wp2_with fail
      go_ret
      exact ⟨⟨_, rfl, by omega, by omega, fun _ => by omega⟩, rfl⟩
theorem contains_spec {w : World} {v : Value} {l : List UInt8} (hr : RdB w.cell? v l) :
    Calls Try.prog 198 #[v, .func (.func 199) #[] #[]] w fun e w' => (∃ b : Bool, e = .returned (.bool b) ∧ (l.all (fun c => decide (c = 0)) = true → b = false)) ∧ w = w' := by
  have hI := indexFunc_spec hr
  obtain ⟨a, c, rfl⟩ := hr.form
  go_enter Try.func198, Try.ntmps198
  go_wp2_with fail
  refine hI.mono ?_
  rintro e w1 ⟨⟨k, rfl, h1, h2, h3⟩, rfl⟩
  have H3 := Hid.mk' h3
  clear h3 hr hI
  by_cases hk : 0 ≤ k
  · have t : decide (0 ≤ k) = true := by simpa using hk
    go_wp2_with fail
    go_ret
    exact ⟨⟨true, rfl, fun h => by have := H3.out h; omega⟩, rfl⟩
  · have t : decide (0 ≤ k) = false := by simpa using hk
    go_wp2_with fail
    go_ret
    exact ⟨⟨false, rfl, fun _ => rfl⟩, rfl⟩
theorem rd_raw {w : World} {R : Snap} {L : Asrt} {p : Nat} {v : Value} {s : PSt} {k : Nat} (H : Holds w R (star (blk p #[v, .bool s.2] rdrT) L)) (hr : RdB R.cell? v s.1) (hl : s.1.length ≤ 1000000) :
    Calls Try.prog 188 #[.pointer (some ⟨p, 0, none⟩), .int .i64 (k : Int)] w fun e w' => ∃ o v', e = .returned o ∧ Holds w' R (star (rowB o (pRaw k s).1) (star (blk p #[v', .bool (pRaw k s).2.2] rdrT) L)) ∧ RdB R.cell? v' (pRaw k s).2.1 := by
  have h := rraw_spec (n := (k : Int)) H hr hl
  rw [Int.toNat_natCast] at h
  exact h
theorem name_parse {s : PSt} {name : ByteArray} {r : List UInt8} (hok : nameOk name = true) (h : s = (nameB name ++ r, false)) : (pNum 1 s).1 = name.size ∧ pRaw 16 (pNum 1 s).2 = (strB name ++ List.replicate (16 - name.size) 0, (r, false)) := by
  have hs := nameOk_le hok
  have h1 : pNum 1 s = (name.size, (strB name ++ List.replicate (16 - name.size) 0 ++ r, false)) := by
    rw [h, nameB, List.append_assoc]
    have := pNum_nb (k := 1) (by decide) (n := (name.size : Int)) (by omega) (by show (name.size : Int) < 256; omega) (strB name ++ List.replicate (16 - name.size) 0 ++ r)
    simpa [strB] using this
  rw [h1]
  refine ⟨rfl, ?_⟩
  have hl : (strB name ++ List.replicate (16 - name.size) (0 : UInt8)).length = 16 := by rw [List.length_append, strB_sz, List.length_replicate]; omega
  have h2 := pRaw_app (l := strB name ++ List.replicate (16 - name.size) (0 : UInt8)) r
  rw [hl] at h2
  exact h2
theorem lget_spec {w : World} {R : Snap} {L : Asrt} {p : Nat} {v : Value} {s : PSt} (H : Holds w R (star (blk p #[v, .bool s.2] rdrT) L)) (hr : RdB R.cell? v s.1) (hl : s.1.length ≤ 1000000) :
    Calls Try.prog 194 #[.pointer (some ⟨p, 0, none⟩)] w fun e w' => ∃ (nm : ByteArray) (ob v' : Value), e = .returned (.tuple #[.string nm, ob]) ∧ Holds w' R (star (blk p #[v', .bool (pRaw 16 (pNum 1 s).2).2.2] rdrT) L) ∧ RdB R.cell? v' (pRaw 16 (pNum 1 s).2).2.1 ∧ nm.size ≤ 16 ∧ (∀ name r, nameOk name = true → s = (nameB name ++ r, false) → nm = name) := by
  have hcomp : ∀ name r, nameOk name = true → s = (nameB name ++ r, false) → (pNum 1 s).1 = name.size ∧ (pRaw 16 (pNum 1 s).2).1 = strB name ++ List.replicate (16 - name.size) 0 ∧ (pRaw 16 (pNum 1 s).2).2.2 = false := fun name r h1 h2 => by
    obtain ⟨h3, h4⟩ := name_parse h1 h2
    exact ⟨h3, by rw [h4], by rw [h4]⟩
  have hlt := pNum1_lt s
  have hl2 := Nat.le_trans (pNum_le 1 s) hl
  have h16 : (pRaw 16 (pNum 1 s).2).2.2 = false → (pRaw 16 (pNum 1 s).2).1.length = 16 := fun h => (pRaw_ok h).2.2
  obtain ⟨q, hq⟩ : ∃ q, q = pRaw 16 (pNum 1 s).2 := ⟨_, rfl⟩
  rw [← hq]
  go_enter Try.func194, Try.ntmps194
  go_wp2_with fail
  refine (rd_num (k := 1) (by decide) H hr).mono ?_
  rintro e w2 ⟨v2, rfl, H2, hr2⟩
  clear H hr
  go_wp2_with fail
  refine (rd_raw (k := 16) H2 hr2 hl2).mono ?_
  rintro e w3 ⟨o, v3, rfl, H3, hr3⟩
  clear H2 hr2 hl2 hl
  obtain ⟨n, hn⟩ : ∃ n, n = (pNum 1 s).1 := ⟨_, rfl⟩
  rw [← hn, ← hq] at hcomp
  rw [← hn] at hlt ⊢
  rw [← hq] at h16 H3 hr3
  have HCP := Hid.mk' hcomp
  have HR3 := Hid.mk' hr3
  clear hn hq hcomp hr3
  obtain ⟨out, rest, bad⟩ := q
  simp only at h16 H3 HR3 HCP ⊢
  obtain ⟨m, hm⟩ : ∃ m, m = out.length := ⟨_, rfl⟩
  have hrow := H3.rowRd
  obtain ⟨ao, co, rfl⟩ := hrow.form
  go_wp2_with fail
  refine (rgood_spec H3.swap).mono ?_
  rintro e w4 ⟨rfl, rfl⟩
  cases bad with
  | true =>
    clear h16
    go_wp2_with fail
    refine bodyPost_ret (results_tmp2 rfl _ _ _) rfl ?_
    exact ⟨_, ⟨_, rfl⟩, _, H3.drop, HR3.out, by decide, fun name r h1 h2 => by have := (HCP.out name r h1 h2).2.2; cases this⟩
  | false =>
    have h16 := h16 rfl
    have hB := hrow.bounds
    have H4 := H3.at_len h16
    have hcv := fun (k : Nat) (hk : k ≤ 16) => convStr (RdB.pre hrow k (by omega))
    have hsub := fun (k : Nat) (hk : k ≤ 16) => RdB.sub hrow k 16 co hk (by omega) (by omega) (Nat.le_refl _)
    have hco : 16 ≤ co := by omega
    have HOL := Hid.mk' h16
    simp only [h16]
    clear h16 hrow hB H3 hm
    by_cases hn16 : n ≤ 16
    · have t0 : decide ((16 : Int) < (n : Int)) = false := by simp; omega
      have hcv := hcv n hn16
      have hsub := hsub n hn16
      have i1 : (0 : Int) ≤ (n : Int) := by omega
      have i2 : (n : Int) ≤ (co : Int) := by omega
      have i3 : (n : Int) ≤ 16 := by omega
      go_wp2_with fail
      refine (contains_spec hsub).mono ?_
      rintro e w4 ⟨⟨b, rfl, hb⟩, rfl⟩
      have HB := Hid.mk' hb
      obtain ⟨nm, hnm⟩ : ∃ nm : ByteArray, nm = ⟨(out.take n).toArray⟩ := ⟨_, rfl⟩
      have hns : nm.size ≤ 16 := by
        rw [hnm]
        show (out.take n).toArray.size ≤ 16
        rw [List.size_toArray, List.length_take]; omega
      simp only [← hnm]
      have HNM := Hid.mk' hnm
      have hRR := right_spec (s := nm) (by simp only [maxLen]; omega)
      clear hcv hsub hb hnm
      cases b with
      | true =>
        go_wp2_with fail
        refine bodyPost_ret (results_tmp2 rfl _ _ _) rfl ?_
        refine ⟨_, ⟨_, rfl⟩, _, H4.drop, HR3.out, by decide, fun name r h1 h2 => ?_⟩
        obtain ⟨h3, h4, _⟩ := HCP.out name r h1 h2
        have h5 := HB.out (by
          rw [h4, h3]
          rw [List.drop_left' (strB_sz name)]
          rw [List.all_eq_true]
          intro x hx
          have := List.mem_of_mem_take hx
          rw [List.mem_replicate] at this
          simpa using this.2)
        cases h5
      | false =>
        go_wp2_with fail
        refine (hRR _).mono ?_
        rintro e w5 ⟨rfl, rfl⟩
        cases hok : nameOk nm with
        | true =>
          go_wp2_with fail
          refine bodyPost_ret (results_tmp2 rfl _ _ _) rfl ?_
          refine ⟨_, ⟨_, rfl⟩, _, H4.drop, HR3.out, hns, fun name r h1 h2 => ?_⟩
          obtain ⟨h3, h4, _⟩ := HCP.out name r h1 h2
          rw [HNM.out, h4, h3, List.take_left' (strB_sz name)]
          rfl
        | false =>
          go_wp2_with fail
          refine bodyPost_ret (results_tmp2 rfl _ _ _) rfl ?_
          refine ⟨_, ⟨_, rfl⟩, _, H4.drop, HR3.out, by decide, fun name r h1 h2 => ?_⟩
          obtain ⟨h3, h4, _⟩ := HCP.out name r h1 h2
          have : nm = name := by
            rw [HNM.out, h4, h3, List.take_left' (strB_sz name)]
            rfl
          rw [this, h1] at hok
          cases hok
    · have t0 : decide ((16 : Int) < (n : Int)) = true := by simp; omega
      clear hcv hsub
      go_wp2_with fail
      refine bodyPost_ret (results_tmp2 rfl _ _ _) rfl ?_
      exact ⟨_, ⟨_, rfl⟩, _, H4.drop, HR3.out, by decide, fun name r h1 h2 => by
        have h3 := (HCP.out name r h1 h2).1
        have := nameOk_le h1
        omega⟩
end Sh
