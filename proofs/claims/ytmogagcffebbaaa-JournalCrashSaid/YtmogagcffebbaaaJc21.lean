/- JrnAlive JrnSome JrnLaw JrnCrashLaw EntAct: joined texts, each with its own sentence below. -/
import Derived.Test.YtmogagcffebbaaaJc19
import Derived.Test.YtmogagcffebbaaaJc20
import Derived.Test.YtmogagcffebbaaaJc5
import Derived.Test.YtmogagcffebbaaaJc2
import Derived.Deep.RegionHeld3
import Derived.Test.YtmogagcffebbaaaJc6
/- Journal's laws: few, alive. -/
set_option linter.unusedVariables false
set_option linter.unusedSimpArgs false
namespace Sh
open Go Go.RowKit Go.Proofs
attribute [local go_sem ↓] Go.wp_at_zero Go.wp_at_succ
set_option maxHeartbeats 1000000
set_option maxRecDepth 100000

theorem few19_spec {w : World} {R : Snap} {L : Asrt} {v : Value} {cs : List Ch} (H : Holds w R L) (hr : RdC R.cell? v cs) :
    Calls Try.prog 87 #[v] w fun e w' => ∃ b, e = .returned (.bool b) ∧ (b = true → cs.length ≤ 20 ∧ ∀ x ∈ cs, x.data.length ≤ 100) ∧ Holds w' R L := by
  obtain ⟨a, c, rfl⟩ := hr.form
  have hmx := Rd.max hr.1
  unfold maxLen at hmx
  obtain ⟨n, hn⟩ : ∃ n, n = cs.length := ⟨_, rfl⟩
  have HR := Hid.mk' hr
  have HN := Hid.mk' hn
  rw [← hn] at hmx ⊢
  clear hr hn
  go_enter Try.func87, Try.ntmps87
  go_wp2_with fail
  go_loopw [7] (fun i wx => ∃ (j : Nat), i = .int .i64 j ∧ j ≤ n ∧ Hid (∀ k (h : k < cs.length), k < j → cs[k].data.length ≤ 100) ∧ Holds wx R L) (fun i _ => n - (intOf i).toNat)
  case atStart => exact ⟨0, rfl, Nat.zero_le _, Hid.mk' (fun k _ h => absurd h (Nat.not_lt_zero k)), H⟩
  case round =>
    clear H
    obtain ⟨j, rfl, hj, hA, H3⟩ := hrel
    by_cases hlt : j < n
    · have d1 : decide ((j : Int) < (n : Int)) = true := by simp; omega
      have hjs : j < cs.length := by rw [← HN.out]; exact hlt
      obtain ⟨b2, o2, rfl, hc0, hc1, hq⟩ := RdC.at HR.out hjs
      obtain ⟨l, hl⟩ : ∃ l, l = cs[j].data.length := ⟨_, rfl⟩
      have HL : Hid (∀ h : j < cs.length, cs[j].data.length = l) := Hid.mk' (fun _ => hl.symm)
      generalize cs[j] = x at hc0 hc1 hq hl
      obtain ⟨xa, xv, xd⟩ := x
      simp only at hc0 hc1 hq hl
      obtain ⟨ax, cx, rfl⟩ := hq.form
      rw [← hl] at hc1
      have hlm := Rd.max hq
      rw [← hl] at hlm
      unfold maxLen at hlm
      replace hc0 := H3.cell hc0
      replace hc1 := H3.cell hc1
      have i1 : (0 : Int) ≤ (j : Int) := by omega
      have i2 : (j : Int) < (n : Int) := by omega
      have H4 := H3.garbage (.cells #[.int .i64 xa, .slice ax l cx] tChg)
      clear hq hl hjs
      by_cases h100 : 100 < l
      · have t1 : decide ((100 : Int) < (l : Int)) = true := by simp; omega
        have t1n : decide (100 < l) = true := by simp; omega
        go_wp2_with fail
        go_ret
        exact ⟨false, rfl, (fun h => by cases h), H4⟩
      · have t1 : decide ((100 : Int) < (l : Int)) = false := by simp; omega
        have t1n : decide (100 < l) = false := by simp; omega
        go_wp2_with fail
        go_roundw
        case rel =>
          refine ⟨j + 1, by go_num, hlt, Hid.mk' (fun k h h2 => ?_), H4⟩
          rcases Nat.lt_or_ge k j with h3 | h3
          · exact hA.out k h h3
          · obtain rfl : k = j := by omega
            rw [HL.out]; omega
        case measure => simp [intOf]; omega
    · have d1 : decide ((j : Int) < (n : Int)) = false := by simp; omega
      obtain rfl : j = n := by omega
      have HD : Hid (∀ x ∈ cs, x.data.length ≤ 100) := Hid.mk' (fun x hx => by
        obtain ⟨i, hi, rfl⟩ := List.mem_iff_getElem.1 hx
        exact hA.out i hi (by rw [HN.out]; exact hi))
      clear hA
      by_cases h50 : j ≤ 20
      · have t1 : decide ((j : Int) ≤ 20) = true := by simp; omega
        have t1n : decide (j ≤ 20) = true := by simp; omega
        go_wp2_with fail
        go_ret
        exact ⟨true, rfl, (fun _ => ⟨h50, HD.out⟩), H3⟩
      · have t1 : decide ((j : Int) ≤ 20) = false := by simp; omega
        have t1n : decide (j ≤ 20) = false := by simp; omega
        go_wp2_with fail
        go_ret
        exact ⟨false, rfl, (fun h => by cases h), H3⟩
theorem doW_fit {n : Nat} {E : List En} (h : checkC E = 0) (hth : thereC n E = true) : ∀ c ∈ doW E, wFit n c.1 c.2 = true := by
  intro c hc
  have hth2 := hth
  rw [thereC, Bool.and_eq_true] at hth2
  have hn := of_decide_eq_true hth2.2
  obtain ⟨hl1, hl2⟩ := putC_bd h
  unfold doW at hc
  split at hc
  · cases hc
  · rw [wFit]
    refine decide_eq_true ?_
    simp only [List.mem_append, List.mem_singleton] at hc
    rcases hc with hc | rfl | hc | rfl | hc
    · obtain ⟨i, hi, rfl⟩ := bodW_mem hc
      refine ⟨by simp; omega, .inr ?_⟩
      simp only
      rw [List.getD_eq_getElem?_getD, List.getElem?_eq_getElem (by omega), Option.getD_some]
      exact putC_64 _ (List.getElem_mem _)
    · refine ⟨by simp; omega, .inr ?_⟩
      simp only
      rw [List.getD_eq_getElem?_getD, List.getElem?_eq_getElem (by omega), Option.getD_some]
      exact putC_64 _ (List.getElem_mem _)
    · have h1 := List.all_eq_true.1 (checkC_ok h).1 c hc
      have h2 := List.all_eq_true.1 (checkC_ok h).2.2.1 c hc
      have h3 := List.all_eq_true.1 hth2.1 c hc
      unfold placeC at h1
      unfold formC at h2
      simp only [Bool.or_eq_true, Bool.and_eq_true, decide_eq_true_eq] at h1 h2 h3
      exact ⟨⟨by omega, h3⟩, h2⟩
    · exact ⟨by simp; omega, .inl rfl⟩
    · obtain ⟨i, hi, rfl⟩ := clrW_mem hc
      exact ⟨by simp; omega, .inl rfl⟩
theorem runW_enough (l : List En) : ∀ S : List (List UInt8), (∀ c ∈ l, wFit S.length c.1 c.2 = true) → runW (S, (l.length : Int), false) l = (true, (apW S l, 0, false)) := by
  induction l with
  | nil => intro S _; rfl
  | cons c l ih =>
    intro S h
    have hf := h c List.mem_cons_self
    have hs : spendOk ((l.length + 1 : Nat) : Int) false = true := by simp [spendOk]; omega
    have hc : wrOk (S, ((l.length + 1 : Nat) : Int), false) c = true := by
      rw [wrOk, wOk, hf]; exact hs
    have hw : wrSt (S, ((l.length + 1 : Nat) : Int), false) c = (S.set c.1.toNat (pad64 c.2), (l.length : Int), false) := by
      unfold wrSt
      rw [show wS S ((l.length + 1 : Nat) : Int) false c.1 c.2 = S.set c.1.toNat (pad64 c.2) from wS_yes hc, wLeft, wDead, hf, if_pos rfl, if_pos rfl, spendLeft, hs, if_pos ⟨rfl, (by omega : (0 : Int) < ((l.length + 1 : Nat) : Int))⟩]
      rw [show ((l.length + 1 : Nat) : Int) - 1 = (l.length : Int) by omega]
      rfl
    rw [List.length_cons, runW, if_pos hc, hw, ih _ (fun c' hc' => by rw [List.length_set]; exact h c' (List.mem_cons_of_mem _ hc')), apW_cons]
theorem runW_dark {c : En} {l : List En} {S : List (List UInt8)} (h : wFit S.length c.1 c.2 = true) : runW (S, 0, false) (c :: l) = (false, (S, 0, true)) := by
  have hc : wrOk (S, 0, false) c = false := by rw [wrOk, wOk, h]; rfl
  have hw : wrSt (S, 0, false) c = (S, 0, true) := by
    unfold wrSt
    rw [show wS S 0 false c.1 c.2 = S from wS_no hc, wLeft, wDead, h]
    rfl
  rw [runW, if_neg (by rw [hc]; decide), hw]
theorem en36 : checkC [(36, [])] = 0 := by decide
theorem en36_th : thereC 40 [(36, [])] = true := by decide
theorem en36_len : (doW [(36, [])]).length = 5 := by
  have h : (putC [(36, [])]).length = 2 := by rw [putC_len, textC_len]; decide
  rw [doW, if_neg (by simp), h]
  simp [bodW, clrW]
set_option maxHeartbeats 8000000
theorem alive19 {w : World} {R : Snap} {L : Asrt} (H : Holds w R L) (hcy : L.celly) : Calls Try.prog 88 #[] w fun e w' => e = .returned (.bool true) ∧ Holds w' R L := by
  obtain ⟨E, hE⟩ : ∃ E : List En, E = [(36, [])] := ⟨_, rfl⟩
  obtain ⟨S0, hS0⟩ : ∃ S, S = zeros (secN 40) := ⟨_, rfl⟩
  have hl40 : S0.length = 40 := by rw [hS0, zeros, List.length_replicate]; rfl
  have h64 : ∀ s ∈ S0, s.length = 64 := by rw [hS0]; exact all_zeros
  have hz : S0[1]? = some Z64 := by rw [hS0]; rfl
  have hck : checkC E = 0 := by rw [hE]; exact en36
  have hth : thereC S0.length E = true := by rw [hE, hl40]; exact en36_th
  have hfit : ∀ c ∈ doW E, wFit S0.length c.1 c.2 = true := doW_fit hck hth
  obtain ⟨S1, hS1⟩ : ∃ S, S = apW S0 (doW E) := ⟨_, rfl⟩
  have hr1 : runW (S0, 5, false) (doW E) = (true, (S1, 0, false)) := by
    have := runW_enough (doW E) S0 hfit
    rwa [hE, en36_len, ← hE, ← hS1] at this
  have hl1 : S1.length = 40 := by rw [hS1, apW_len, hl40]
  have hd1 : doR (S0, 5, false) E = (0, (S1, 0, false)) := by
    rw [doR, if_pos hck, if_pos hth, hr1]; rfl
  have hth1 : thereC S1.length E = true := by rw [hl1, ← hl40]; exact hth
  have hd2 : doR (S1, 0, false) E = (15, (S1, 0, true)) := by
    rw [doR, if_pos hck, if_pos hth1]
    have hne : doW E ≠ [] := fun h => by
      have := congrArg List.length h
      rw [hE, en36_len] at this
      cases this
    obtain ⟨c, l, hcl⟩ := List.exists_cons_of_ne_nil hne
    have hf : wFit S1.length c.1 c.2 = true := by rw [hl1, ← hl40]; exact hfit c (by rw [hcl]; exact List.mem_cons_self)
    rw [hcl, runW_dark hf]; rfl
  have hinv := do_inv (st := (S0, 5, false)) (E := E) (by rw [hl40]; decide) h64 (show Bd (S0, 5, false) from (by decide : (-1 : Int) ≤ 5 ∧ (5 : Int) ≤ 9223372036854775807)) hz hck
  rw [hr1] at hinv
  have hz1 : S1[1]? = some Z64 := (hinv.2 rfl).1
  have h641 : ∀ s ∈ S1, s.length = 64 := hinv.1.2.1
  have hrec : ∀ F ok, GotC (jS S1) F ok → (runW (S1, -1, false) (againW S1 F)).1 = true ∧ cleanS (runW (S1, -1, false) (againW S1 F)).2.1 = true ∧ (∀ s ∈ (runW (S1, -1, false) (againW S1 F)).2.1, s.length ≤ 1000000) ∧ (runW (S1, -1, false) (againW S1 F)).2.1.length ≤ 1000 := by
    intro F ok hG
    have hF := got_clear hz1 hG
    subst hF
    have hfit2 : ∀ c ∈ againW S1 [], wFit S1.length c.1 c.2 = true := by
      rw [againW, ite_self, List.nil_append]
      intro c hc
      obtain ⟨_, h2, h3, h4⟩ := clrN_in c hc
      rw [wFit, h2]
      exact decide_eq_true ⟨⟨h4, h3⟩, .inl rfl⟩
    have hfu := runW_full _ S1 hfit2
    have h1 : (runW (S1, -1, false) (againW S1 [])).1 = true := by rw [hfu]
    obtain ⟨k1, k2, k3⟩ := runW_inv (st := (S1, -1, false)) (l := againW S1 []) (show Bd (S1, -1, false) from (by decide : (-1 : Int) ≤ -1 ∧ (-1 : Int) ≤ 9223372036854775807)) h641
    exact ⟨h1, again_clean (st := (S1, -1, false)) hG h1, fun s hs => by rw [k2 s hs]; decide, by rw [k3, hl1]; decide⟩
  have HE := Hid.mk' hE
  have HS0 := Hid.mk' hS0
  have HD1 := Hid.mk' hd1
  have HD2 := Hid.mk' hd2
  have HREC := Hid.mk' hrec
  have HL0 := Hid.mk' hl40
  have HL1 := Hid.mk' hl1
  have H61 := Hid.mk' h641
  clear hE hS0 hl40 h64 hz hck hth hfit hS1 hr1 hl1 hd1 hth1 hd2 hinv hz1 h641 hrec
  go_enter Try.func88, Try.ntmps88
  go_wp2_with fail
  refine (new_crc H).mono ?_
  rintro e w1 ⟨p, rfl, H1⟩
  obtain ⟨R1, le1, H2, hT⟩ := H1.freezeBlk
  clear H1 H
  go_wp2_with fail
  refine (disknew_spec (n := 40) H2).mono ?_
  rintro e w3 ⟨pd, rfl, H3⟩
  rw [← HS0.out] at H3
  clear H2
  go_wp2_with fail
  refine (dpower_spec (n := 5) H3).mono ?_
  rintro e w4 ⟨rfl, H4⟩
  replace H4 : Holds w4 R1 (star (dA pd (S0, 5, false)) L) := H4
  clear H3
  go_wp2_with fail
  obtain ⟨R5, le5, H5, hr5⟩ := ((H4.alloc #[.int .i64 36, .slice none 0 0] tChg).toRow 2 1 1 (Nat.le_refl _) (by decide) rfl).freezeRow
  have HC5 := Hid.mk' (cl1 _ _ _ hr5)
  have hsz : SzC [⟨36, .slice none 0 0, []⟩] := ⟨by simp, fun x hx => by obtain rfl := List.mem_singleton.1 hx; simp⟩
  have HSZ := Hid.mk' hsz
  have hT5 := le5.blk _ _ hT
  clear H4 hr5 hsz
  refine (jdo_spec H5 hcy hT5 (show Bd (S0, 5, false) from (by decide : (-1 : Int) ≤ 5 ∧ (5 : Int) ≤ 9223372036854775807)) (by rw [HL0.out]; decide) HC5.out HSZ.out).mono ?_
  rintro e w6 ⟨rfl, H6⟩
  rw [show conC [⟨36, .slice none 0 0, []⟩] = E from HE.out.symm, HD1.out] at H6 ⊢
  clear H5
  go_wp2_with fail
  obtain ⟨R7, le7, H7, hr7⟩ := ((H6.alloc #[.int .i64 36, .slice none 0 0] tChg).toRow 2 1 1 (Nat.le_refl _) (by decide) rfl).freezeRow
  have HC7 := Hid.mk' (cl1 _ _ _ hr7)
  have hT7 := le7.blk _ _ hT5
  clear H6 hr7
  refine (jdo_spec H7 hcy hT7 (show Bd (S1, 0, false) from (by decide : (-1 : Int) ≤ 0 ∧ (0 : Int) ≤ 9223372036854775807)) (by rw [HL1.out]; decide) HC7.out HSZ.out).mono ?_
  rintro e w8 ⟨rfl, H8⟩
  rw [show conC [⟨36, .slice none 0 0, []⟩] = E from HE.out.symm, HD2.out] at H8 ⊢
  clear H7
  go_wp2_with fail
  refine (dpower_spec (n := -1) H8).mono ?_
  rintro e w9 ⟨rfl, H9⟩
  replace H9 : Holds w9 R7 (star (dA pd (S1, -1, false)) L) := H9
  clear H8
  go_wp2_with fail
  refine (jrec_spec H9 hcy hT7 (show Bd (S1, -1, false) from (by decide : (-1 : Int) ≤ -1 ∧ (-1 : Int) ≤ 9223372036854775807)) (fun s hs => by rw [H61.out s hs]; decide) (by rw [HL1.out]; decide)).mono ?_
  rintro e w10 ⟨F, ok, hG, rfl, H10⟩
  obtain ⟨k1, k2, k3, k4⟩ := HREC.out F ok hG
  rw [show errOf (runW (S1, -1, false) (againW S1 F)).1 = 0 by rw [k1]; rfl]
  clear H9 hG k1
  obtain ⟨T, hT⟩ : ∃ T, T = (runW (S1, -1, false) (againW S1 F)).2 := ⟨_, rfl⟩
  replace H10 : Holds w10 R7 (star (dA pd T) L) := by rw [hT]; exact H10
  replace k2 : cleanS T.1 = true := by rw [hT]; exact k2
  replace k3 : ∀ s ∈ T.1, s.length ≤ 1000000 := by rw [hT]; exact k3
  replace k4 : T.1.length ≤ 1000 := by rw [hT]; exact k4
  have K2 := Hid.mk' k2
  have K3 := Hid.mk' k3
  have K4 := Hid.mk' k4
  clear hT k2 k3 k4
  go_wp2_with fail
  refine (jclean_spec H10 K3.out K4.out).mono ?_
  rintro e w11 ⟨rfl, H11⟩
  rw [K2.out]
  go_wp2_with fail
  go_ret
  exact ⟨rfl, (H11.drop).weaken (le1.trans (le5.trans le7))⟩
end Sh
/- sherdlaw19.some: two disks alike, whose journal is clear. -/
set_option linter.unusedVariables false
set_option linter.unusedSimpArgs false
namespace Sh
open Go Go.RowKit Go.Proofs
attribute [local go_sem ↓] Go.wp_at_zero Go.wp_at_succ
set_option maxHeartbeats 1000000
set_option maxRecDepth 100000

theorem some_wr {S : List (List UInt8)} {c : En} (h : outJ c) : ∃ S', wrSt (S, -1, false) c = (S', -1, false) ∧ S'.length = S.length ∧ cleanS S' = cleanS S ∧ ((∀ s ∈ S, s.length = 64) → ∀ s ∈ S', s.length = 64) := by
  refine ⟨wS S (-1) false c.1 c.2, ?_, ?_, ?_, ?_⟩
  · unfold wrSt
    simp only
    have h1 : wLeft S.length (-1) false c.1 c.2 = -1 := by rw [wLeft]; split <;> rfl
    have h2 : wDead S.length (-1) false c.1 c.2 = false := by rw [wDead]; split <;> rfl
    rw [h1, h2]
  · exact wrSt_len (S, -1, false) c
  · cases ho : wOk S.length (-1) false c.1 c.2 with
    | true =>
      rw [wS_yes ho]
      exact clean_out (S := S) (l := [c]) (fun d hd => by rw [List.mem_singleton.1 hd]; exact h)
    | false => rw [wS_no ho]
  · intro h64
    exact S64.wr (st := (S, -1, false)) h64 c
theorem zeros_clean (n : Nat) : cleanS (zeros n) = true := by
  rw [cleanS_iff]
  intro i _ h
  rw [List.getElem?_eq_getElem h]
  exact congrArg some (List.getElem_replicate ..)
set_option maxHeartbeats 8000000
theorem some19 {w : World} {R : Snap} {L : Asrt} {n : Int} {v : Value} {b : List UInt8} (H : Holds w R L) (hr : RdB R.cell? v b) (hb : 0 < b.length ∧ b.length ≤ 100) (hn : 0 ≤ n ∧ n ≤ 100) :
    Calls Try.prog 89 #[.int .i64 n, v] w fun e w' => ∃ (pd pm : Nat) (S : List (List UInt8)), e = .returned (.tuple #[.pointer (some ⟨pd, 0, none⟩), .pointer (some ⟨pm, 0, none⟩)]) ∧ S.length = secN n ∧ (∀ s ∈ S, s.length = 64) ∧ cleanS S = true ∧ Holds w' R (star (dA pd (S, -1, false)) (star (mA pm (S, -1, false)) L)) := by
  obtain ⟨ab, cb, rfl⟩ := hr.form
  obtain ⟨bl, hbl⟩ : ∃ m, m = b.length := ⟨_, rfl⟩
  have HR : Hid (RdB R.cell? (.slice ab bl cb) b) := Hid.mk' (by rw [hbl]; exact hr)
  have HBL := Hid.mk' hbl
  rw [← hbl] at hb ⊢
  obtain ⟨hb0, hb9⟩ := hb
  obtain ⟨hn0, hn9⟩ := hn
  obtain ⟨N, hN⟩ : ∃ N, N = secN n := ⟨_, rfl⟩
  have HN := Hid.mk' hN
  have hN9 : N ≤ 100 := by rw [hN]; unfold secN; omega
  rw [← hN]
  clear hr hbl hN
  have hbpos : (0 : Int) < (bl : Int) := by omega
  have hbne : ¬ (bl : Int) = 0 := by omega
  have d0 : decide ((0 : Int) < (bl : Int)) = true := decide_eq_true hbpos
  go_enter Try.func89, Try.ntmps89
  go_wp2_with fail
  refine (disknew_spec (n := n) H).mono ?_
  rintro e w1 ⟨pd, rfl, H1⟩
  clear H
  go_wp2_with fail
  refine (mnew_spec (n := n) H1).mono ?_
  rintro e w2 ⟨pm, rfl, H2⟩
  rw [← HN.out] at H2
  clear H1
  have H3 : Holds w2 R (star (dA pd (zeros N, -1, false)) (star (mA pm (zeros N, -1, false)) L)) := H2.swap
  clear H2
  go_wp2_with fail
  go_loopw [8] (fun i wx => ∃ (j : Nat) (S : List (List UInt8)), i = .int .i64 (j : Int) ∧ j ≤ N ∧ S.length = N ∧ Hid ((∀ s ∈ S, s.length = 64) ∧ cleanS S = true) ∧ Holds wx R (star (dA pd (S, -1, false)) (star (mA pm (S, -1, false)) L))) (fun i _ => N - (intOf i).toNat)
  case atStart => exact ⟨0, zeros N, rfl, Nat.zero_le _, by rw [zeros, List.length_replicate], Hid.mk' ⟨all_zeros, zeros_clean N⟩, H3⟩
  case round =>
    clear H3
    obtain ⟨j, S, rfl, hj, hSl, HS, H4⟩ := hrel
    have HSL := Hid.mk' hSl
    have hsz := size_spec H4
    rw [hSl] at hsz
    have HSZ := Hid.mk' hsz
    clear hsz hSl
    by_cases hlt : j < N ∧ (j : Int) < n
    · obtain ⟨hlt, hjn⟩ := hlt
      have d1 : decide ((j : Int) < (N : Int)) = true := by simp; omega
      have d2 : decide ((j : Int) < n) = true := decide_eq_true hjn
      go_wp2_with fail
      refine HSZ.out.mono ?_
      rintro e w5 ⟨rfl, rfl⟩
      by_cases hjo : j = 0 ∨ 34 ≤ j
      · have HOUT : Hid (∀ x : List UInt8, outJ ((j : Int), x)) := Hid.mk' (fun x => by unfold outJ; simp; omega)
        go_upto_region 5 with fail
        go_cut [36] from 15 to 63 (fun c wx => c = .bool true ∧ wx = wr)
        case first =>
          by_cases hj0 : j = 0
          · subst hj0
            go_wp2_with fail
            go_meet
            case rel => exact ⟨rfl, rfl⟩
          · have e1 : ((j : Int) == 0) = false := by rw [beq_eq_false_iff_ne]; omega
            have e2 : decide ((34 : Int) ≤ (j : Int)) = true := by simp; omega
            have e2n : decide (34 ≤ j) = true := by simp; omega
            clear hjo
            go_wp2_with fail
            go_meet
            case rel => exact ⟨rfl, rfl⟩
        obtain ⟨rfl, rfl⟩ := hcut
        go_wp2_with (with_reducible refine stop_make ?_)
        refine Hold.go (wpList_makeB (n := 64) rfl _ _ rfl rfl rfl H4 (by omega) ?_)
        intro v2 w6 H6
        obtain ⟨a2, c2, rfl⟩ := H6.rowRd.form
        clear H4
        simp only [rowB, List.length_replicate] at H6 ⊢
        go_wp2_with fail
        go_loopw [40] (fun i wx => ∃ (k : Nat) (s : List UInt8), i = .int .i64 (k : Int) ∧ k ≤ 64 ∧ Hid (s.length = 64) ∧ Holds wx R (star (row tU8 1 (.slice a2 64 c2) 64 (u8s s)) (star (dA pd (S, -1, false)) (star (mA pm (S, -1, false)) L)))) (fun i _ => 64 - (intOf i).toNat)
        case atStart => exact ⟨0, List.replicate 64 0, rfl, Nat.zero_le _, Hid.mk' (by simp), H6⟩
        case round =>
          clear H6
          obtain ⟨k, s, rfl, hk, HS6, H7⟩ := hrel
          by_cases hk6 : k < 64
          · have d3 : decide ((k : Int) < 64) = true := by simp; omega
            have d3n : decide (k < 64) = true := by simp; omega
            obtain ⟨b1, o1, rfl, hc⟩ := RdB.open (n := bl) (cap := cb) (l := b) (HR.out.world H7) (by rw [← HBL.out]; exact hb0)
            obtain ⟨t, ht⟩ : ∃ t, t = j + k := ⟨_, rfl⟩
            have hte : (j : Int) + (k : Int) = (t : Int) := by omega
            have ht9 : t ≤ 200 := by omega
            obtain ⟨r, hr⟩ : ∃ r, r = t % bl := ⟨_, rfl⟩
            have hrb : r < bl := by rw [hr]; exact Nat.mod_lt _ hb0
            have hre : (t : Int) % (bl : Int) = (r : Int) := by rw [hr]; exact (Int.natCast_emod _ _).symm
            have hrt : (t : Int).tmod (bl : Int) = (r : Int) := by rw [hr, ← Int.ofNat_tmod]
            have cr := hc r (by rw [← HBL.out]; exact hrb)
            generalize b[r]'(by rw [← HBL.out]; exact hrb) = x at cr
            have i1 : (0 : Int) ≤ (r : Int) := by omega
            have i2 : (r : Int) < (bl : Int) := by omega
            have i3 : (0 : Int) ≤ (k : Int) := by omega
            have i4 : (k : Int) < 64 := by omega
            obtain ⟨g2, cap, e1, hc2, hg2, hcl, hfz⟩ := H7.rowAt (by omega)
            simp only [Value.slice.injEq, true_and] at e1
            obtain ⟨rfl, rfl⟩ := e1
            have hlen2 : k < (u8s s).length := by
              have := H7.rowRd.len; omega
            have ct := hcl k _ (List.getElem?_eq_getElem hlen2)
            have ft := hfz k
            have HF := Hid.mk' (row_write H7 k (x.toNat : Int) hk6 (by have := u8_lt x; omega))
            generalize (u8s s)[k] = old at ct
            clear hc hcl hfz ht hr hlen2
            go_wp2_with fail
            go_roundw
            case rel => exact ⟨k + 1, s.set k (UInt8.ofNat (x.toNat : Int).toNat), by go_num, hk6, Hid.mk' (by rw [List.length_set]; exact HS6.out), HF.out⟩
            case measure => simp [intOf]; omega
          · have d3 : decide ((k : Int) < 64) = false := by simp; omega
            have d3n : decide (k < 64) = false := by simp; omega
            obtain ⟨R8, le8, H8, hr8⟩ := H7.freezeRow
            have HR8 : Hid (RdB R8.cell? (.slice a2 64 c2) s) := Hid.mk' (by
              show Rd R8.cell? 1 (.slice a2 64 c2) s.length (u8s s)
              rw [HS6.out]; exact hr8)
            obtain ⟨S', hw, hl', hc', h64'⟩ := some_wr (S := S) (HOUT.out s)
            have HW := Hid.mk' hw
            have HL' := Hid.mk' hl'
            have HC' := Hid.mk' hc'
            have H64' := Hid.mk' h64'
            clear H7 hr8 hw hl' hc' h64'
            go_wp2_with fail
            refine (dwrite_spec (i := (j : Int)) H8 HR8.out (show (-1 : Int) ≤ -1 ∧ (-1 : Int) ≤ 9223372036854775807 by decide)).mono ?_
            rintro e w9 ⟨rfl, H9⟩
            replace H9 : Holds w9 R8 (star (dA pd (wrSt (S, -1, false) ((j : Int), s))) (star (mA pm (S, -1, false)) L)) := H9
            rw [HW.out] at H9
            clear H8
            go_wp2_with fail
            refine (mwrite_spec (i := (j : Int)) H9.swap HS.out.1 (by rw [HSL.out]; omega) HR8.out (show (-1 : Int) ≤ -1 ∧ (-1 : Int) ≤ 9223372036854775807 by decide)).mono ?_
            rintro e w10 ⟨rfl, H10⟩
            replace H10 : Holds w10 R8 (star (mA pm (wrSt (S, -1, false) ((j : Int), s))) (star (dA pd (S', -1, false)) L)) := H10
            rw [HW.out] at H10
            clear H9
            go_wp2_with fail
            go_roundw
            case rel => exact ⟨j + 1, S', by go_num, hlt, by rw [HL'.out, HSL.out], Hid.mk' ⟨H64'.out HS.out.1, by rw [HC'.out]; exact HS.out.2⟩, H10.swap.weaken le8⟩
            case measure => simp [intOf]; omega
      · have e1 : ((j : Int) == 0) = false := by rw [beq_eq_false_iff_ne]; omega
        have e2 : decide ((34 : Int) ≤ (j : Int)) = false := by simp; omega
        have e2n : decide (34 ≤ j) = false := by simp; omega
        clear hjo
        go_wp2_with fail
        go_roundw
        case rel => exact ⟨j + 1, S, by go_num, hlt, HSL.out, HS, H4⟩
        case measure => simp [intOf]; omega
    · by_cases hjN : j < N
      · have d1 : decide ((j : Int) < (N : Int)) = true := by simp; omega
        have d2 : decide ((j : Int) < n) = false := decide_eq_false (by omega)
        clear hlt
        go_wp2_with fail
        refine HSZ.out.mono ?_
        rintro e w5 ⟨rfl, rfl⟩
        go_wp2_with fail
        go_ret2
        exact ⟨pd, pm, S, rfl, HSL.out, HS.out.1, HS.out.2, H4⟩
      · have d1 : decide ((j : Int) < (N : Int)) = false := by simp; omega
        clear hlt
        go_wp2_with fail
        refine HSZ.out.mono ?_
        rintro e w5 ⟨rfl, rfl⟩
        go_wp2_with fail
        go_ret2
        exact ⟨pd, pm, S, rfl, HSL.out, HS.out.1, HS.out.2, H4⟩
end Sh
/- Journal's laws: what they share. -/
set_option linter.unusedVariables false
set_option linter.unusedSimpArgs false
namespace Sh
open Go Go.RowKit Go.Proofs
attribute [local go_sem ↓] Go.wp_at_zero Go.wp_at_succ
set_option maxHeartbeats 1000000
set_option maxRecDepth 100000

theorem chkJ_ok {n : Nat} {E : List En} (h : chkJ n E = 0) : checkC E = 0 ∧ thereC n E = true := by
  unfold chkJ at h
  by_cases h1 : checkC E = 0
  · rw [if_pos h1] at h
    by_cases h2 : thereC n E = true
    · exact ⟨h1, h2⟩
    · rw [if_neg h2] at h; cases h
  · rw [if_neg h1] at h; exact absurd h h1
theorem celly_m (p : Nat) (st : DSt) : (mA p st).celly := celly_ex fun _ => celly_star (celly_blk _ _ _) (celly_row _ _ _ _ _)
theorem secN_bd {n : Int} (h : 0 ≤ n ∧ n < 60) : 1 ≤ secN n ∧ secN n ≤ 60 := by unfold secN; omega
end Sh
/- JournalCrash: the walk. -/
set_option linter.unusedVariables false
set_option linter.unusedSimpArgs false
namespace Sh
open Go Go.RowKit Go.Proofs
attribute [local go_sem ↓] Go.wp_at_zero Go.wp_at_succ
set_option maxHeartbeats 1000000
set_option maxRecDepth 100000

set_option maxHeartbeats 8000000
theorem journalCrash_walk (W : World) {v vp : Value} {cs : List Ch} {ps : List UInt8} (hb0 : Rd W.cell? 2 v cs.length (cs.flatMap Ch.cells)) (gd0 : ∀ x ∈ cs, RdB W.cell? x.v x.data) (hp1 : RdB W.cell? vp ps) :
    Calls Try.prog 21 #[v, vp] W fun e w' => e = .returned (.bool true) ∧ Below W.heap.size W w' := by
  have hr0 : RdC (Snap.of W).cell? v cs := ⟨hb0, gd0⟩
  have hp0 : RdB (Snap.of W).cell? vp ps := hp1
  clear hb0 gd0 hp1
  obtain ⟨a, c, rfl⟩ := hr0.form
  obtain ⟨ap, cp, rfl⟩ := hp0.form
  have hmx := Rd.max hp0
  unfold maxLen at hmx
  obtain ⟨K, hK⟩ : ∃ K, K = cs.length := ⟨_, rfl⟩
  obtain ⟨P, hP⟩ : ∃ P, P = ps.length := ⟨_, rfl⟩
  have HPN := Hid.mk' hP
  have HR : Hid (RdC (Snap.of W).cell? (.slice a K c) cs) := Hid.mk' (by rw [hK]; exact hr0)
  have HP : Hid (RdB (Snap.of W).cell? (.slice ap P cp) ps) := Hid.mk' (by rw [hP]; exact hp0)
  rw [← hP] at hmx ⊢
  rw [← hK]
  have H1 := Holds.start W
  obtain ⟨g, hg⟩ : ∃ g, W.heap.size = g := ⟨_, rfl⟩
  rw [hg]
  clear hr0 hp0 hK hP
  go_enter Try.func21, Try.ntmps21
  go_wp2_with fail
  refine (few19_spec H1 HR.out).mono ?_
  rintro e w2 ⟨b, rfl, hb, H2⟩
  have HB := Hid.mk' hb
  clear hb H1
  cases b with
  | false =>
    go_wp2_with fail
    refine (alive19 H2 celly_emp).mono ?_
    rintro e w99 ⟨rfl, H99⟩
    go_wp2_with fail
    go_ret
    exact ⟨rfl, hg ▸ H99.toBelow (Snap.le.refl _)⟩
  | true =>
  have HSZ : Hid (SzC cs) := Hid.mk' ⟨by have := (HB.out rfl).1; omega, fun x hx => by have := (HB.out rfl).2 x hx; omega⟩
  clear HB
  by_cases h12 : 12 < P
  · have t1 : decide ((12 : Int) < (P : Int)) = true := by simp; omega
    have t1n : decide (12 < P) = true := by simp; omega
    go_wp2_with fail
    refine (alive19 H2 celly_emp).mono ?_
    rintro e w99 ⟨rfl, H99⟩
    go_wp2_with fail
    go_ret
    exact ⟨rfl, hg ▸ H99.toBelow (Snap.le.refl _)⟩
  have t1 : decide ((12 : Int) < (P : Int)) = false := by simp; omega
  have t1n : decide (12 < P) = false := by simp; omega
  go_wp2_with fail
  refine (new_crc H2).mono ?_
  rintro e w3 ⟨pt, rfl, H3⟩
  obtain ⟨R3, le3, H4, hT⟩ := H3.freezeBlk
  clear H2 H3 t1 t1n
  have H5 := blkB (H4.alloc #[.int .u8 2, .int .u8 7, .int .u8 1, .int .u8 8] tU8) [2, 7, 1, 8] (n := 4) rfl rfl (by decide)
  obtain ⟨R5, le5, H6, hr6⟩ := H5.freezeRow
  have hr6' : RdB R5.cell? (.slice (some ⟨w3.heap.size, 0, none⟩) 4 4) [2, 7, 1, 8] := hr6
  have HR6 := Hid.mk' hr6'
  clear H4 H5 hr6 hr6'
  go_wp2_with fail
  refine (some19 (n := 50) H6 HR6.out (by decide) (by decide)).mono ?_
  rintro e w7 ⟨pd, pm, S0, rfl, hS0, h640, hcl0, H7⟩
  replace hS0 : S0.length = 50 := hS0
  have H64 := Hid.mk' h640
  have HNN := Hid.mk' hS0
  have HCL0 := Hid.mk' hcl0
  replace hT := le5.blk _ _ hT
  replace HR := Hid.mk' (HR.out.le (le3.trans le5))
  replace HP : Hid (RdB R5.cell? (.slice ap P cp) ps) := Hid.mk' (Rd.le HP.out (le3.trans le5))
  have leA := le3.trans le5
  clear H6 hS0 h640 hcl0 HR6 le3 le5
  go_wp2_with fail
  refine (rjcheck_spec (N := 50) H7 HR.out HSZ.out).mono ?_
  rintro e w8 ⟨rfl, H8⟩
  obtain ⟨E, hE⟩ : ∃ E, E = conC cs := ⟨_, rfl⟩
  have HE := Hid.mk' hE
  rw [← hE]
  obtain ⟨kc, hkc⟩ : ∃ kc, chkJ 50 E = kc := ⟨_, rfl⟩
  rw [hkc]
  have HKC := Hid.mk' hkc
  clear hkc H7 hE
  by_cases hk0 : ¬ kc = 0
  · have t2 : (kc != 0) = true := by simpa using hk0
    clear hk0
    go_wp2_with fail
    refine (alive19 H8.drop.drop celly_emp).mono ?_
    rintro e w99 ⟨rfl, H99⟩
    go_wp2_with fail
    go_ret
    exact ⟨rfl, hg ▸ H99.toBelow (leA)⟩
  obtain rfl : kc = 0 := by omega
  clear hk0
  have hok := chkJ_ok HKC.out
  have HOK := Hid.mk' hok
  clear hok
  obtain ⟨am, cm, H9⟩ := m_open H8.swap
  obtain ⟨F0, hF0⟩ : ∃ F, F = S0.flatten := ⟨_, rfl⟩
  have hfl := flatten_len H64.out
  rw [HNN.out] at hfl
  simp only at H9
  rw [← hF0] at H9 hfl
  have HF0 := Hid.mk' hF0
  obtain ⟨R10, le10, H10, hrB⟩ := H9.swap.freezeRow
  obtain ⟨R11, le11, H11, hbm⟩ := H10.freezeBlk
  have hrB' : RdB R10.cell? (.slice am F0.length cm) F0 := hrB
  have HBF : Hid (RdB R11.cell? (.slice am F0.length cm) F0) := Hid.mk' (Rd.le hrB' le11)
  obtain ⟨n0, hn0⟩ : ∃ n, n = F0.length := ⟨_, rfl⟩
  rw [← hn0] at hbm HBF hfl
  have HFL := Hid.mk' hfl
  clear hfl
  have HN0 := Hid.mk' hn0
  replace hT := (le10.trans le11).blk _ _ hT
  replace HR := Hid.mk' (HR.out.le (le10.trans le11))
  replace HP : Hid (RdB R11.cell? (.slice ap P cp) ps) := Hid.mk' (Rd.le HP.out (le10.trans le11))
  replace leA := leA.trans (le10.trans le11)
  clear hF0 H8 H9 H10 hrB hrB' hn0 le10 le11
  obtain ⟨F1, hF1⟩ : ∃ F, F = (apW S0 E).flatten := ⟨_, rfl⟩
  have HF1 := Hid.mk' hF1
  have hwith : runW (S0, -1, false) E = (true, (apW S0 E, -1, false)) := by
    refine runW_full _ _ fun c hc => ?_
    rw [HNN.out]
    have h1 := List.all_eq_true.1 (checkC_ok HOK.out.1).1 c hc
    have h2 := List.all_eq_true.1 (checkC_ok HOK.out.1).2.2.1 c hc
    have hth2 := HOK.out.2
    rw [thereC, Bool.and_eq_true] at hth2
    have h3 := List.all_eq_true.1 hth2.1 c hc
    unfold placeC at h1
    unfold formC at h2
    simp only [Bool.or_eq_true, Bool.and_eq_true, decide_eq_true_eq] at h1 h2 h3
    rw [wFit]
    exact decide_eq_true ⟨⟨by omega, h3⟩, h2⟩
  have HWI := Hid.mk' hwith
  clear hF1 hwith
  obtain ⟨l6, n6, c6⟩ := Holds.frzFacts (H11) hbm
  go_upto_region 7 with fail
  go_cut [8, 9] (fun x y wx => x = .slice am n0 cm ∧ ∃ R', R11.le R' ∧ RdB R'.cell? y F1 ∧ Holds wx R' (star (dA pd (S0, -1, false)) emp))
  case first =>
    go_region_held3 (fun w' => (∀ o, w'.cell? ⟨pm, o, none⟩ = #[.slice am n0 cm, .int .i64 (-1), .bool false][o]?)) (first | (exact H12.frz hbm) | ((repeat' (first | assumption | (with_reducible refine And.intro ?_ ?_) | (with_reducible refine keep_drew ?_) | (with_reducible refine keep_drewN ?_) | (with_reducible refine keep_alloc ?_ (by first | assumption | (simp only [World.size_alloc, World.size_drew, World.size_setCell]; omega))) | (with_reducible refine keep_set ?_ (by first | assumption | omega))))))
      (first | (go_at_call 103; refine (rjwith_spec (S := S0) (w := _) H11.drew (by rw [← HF0.out]; exact HBF.out) H64.out (by rw [HNN.out]; decide) HR.out (by have := HSZ.out.1; omega)).mono ?_; rintro e w12 ⟨o12, rfl, H12⟩))
    all_goals
      rw [← HE.out, HWI.out] at H12
      go_wp2_with fail
      go_meet
      case rel =>
        obtain ⟨R13, le13, H13, hr13⟩ := H12.freezeRow
        refine ⟨rfl, R13, le13, ?_, H13⟩
        rw [HF1.out]; exact hr13
  obtain ⟨rfl, R12, le12, hra, H12⟩ := hcut
  obtain ⟨aA, cA, rfl⟩ := hra.form
  obtain ⟨n1, hn1⟩ : ∃ n, n = F1.length := ⟨_, rfl⟩
  have HA1 : Hid (RdB R12.cell? (.slice aA n1 cA) F1) := Hid.mk' (by rw [hn1]; exact hra)
  rw [← hn1]
  have HF1L : Hid (F1.length ≤ 1000000) := Hid.mk' (by
    rw [HF1.out, flatten_len (apW_64 E S0 H64.out (fun c hc => by
      have h2 := List.all_eq_true.1 (checkC_ok HOK.out.1).2.2.1 c hc
      unfold formC at h2
      simp only [Bool.or_eq_true, decide_eq_true_eq] at h2
      omega)), apW_len, HNN.out]
    decide)
  have HF0L : Hid (F0.length ≤ 1000000) := Hid.mk' (by have := HFL.out; have := HN0.out; omega)
  replace hT := le12.blk _ _ hT
  replace HR := Hid.mk' (HR.out.le le12)
  replace HBF : Hid (RdB R12.cell? (.slice am n0 cm) F0) := Hid.mk' (Rd.le HBF.out le12)
  replace HP : Hid (RdB R12.cell? (.slice ap P cp) ps) := Hid.mk' (Rd.le HP.out le12)
  replace leA := leA.trans le12
  clear hra hn1 H11 l6 n6 c6 hbm
  have hz0 : S0[1]? = some Z64 := cleanS_iff.1 HCL0.out 0 (by decide) (by rw [HNN.out]; decide)
  have HZ0 := Hid.mk' hz0
  clear hz0
  obtain ⟨bp, hbp⟩ : ∃ bp, decide (0 < P) = bp := ⟨_, rfl⟩
  have HBP := Hid.mk' hbp
  clear hbp
  go_upto_region 8 with fail
  go_cut [44] (fun x wx => x = .bool bp ∧ wx = wc)
  case first =>
    cases bp with
    | true =>
      have d1 : decide ((0 : Int) < (P : Int)) = true := by have := of_decide_eq_true HBP.out; simp; omega
      have d1n : decide (0 < P) = true := HBP.out
      go_wp2_with fail
      go_meet
      case rel => exact ⟨rfl, rfl⟩
    | false =>
      have d1 : decide ((0 : Int) < (P : Int)) = false := by have := of_decide_eq_false HBP.out; simp; omega
      have d1n : decide (0 < P) = false := HBP.out
      go_wp2_with fail
      go_meet
      case rel => exact ⟨rfl, rfl⟩
  obtain ⟨rfl, rfl⟩ := hcut
  rename_i K9 hK9
  refine hK9 _ _ ?_
  clear hK9 K9
  go_cut [] (fun wx => ∃ q : Int, (-1 ≤ q ∧ q ≤ 9223372036854775807) ∧ Holds wx R12 (star (dA pd (S0, q, false)) emp))
  case first =>
    cases bp with
    | true =>
      have hp := of_decide_eq_true HBP.out
      obtain ⟨b1, o1, rfl, hc⟩ := RdB.open (n := P) (cap := cp) (l := ps) (HP.out.world H12) (by rw [← HPN.out]; exact hp)
      have cr : wc.cell? ⟨b1, o1, none⟩ = some (.int .u8 ((ps[0]'(by rw [← HPN.out]; exact hp)).toNat : Int)) := hc 0 (by rw [← HPN.out]; exact hp)
      generalize ps[0]'(by rw [← HPN.out]; exact hp) = x at cr
      have hx := u8_lt x
      have i1 : (0 : Int) < (P : Int) := by omega
      clear hc
      go_wp2_with fail
      refine (dpower_spec (n := (x.toNat : Int)) H12).mono ?_
      rintro e w13 ⟨rfl, H13⟩
      go_wp2_with fail
      go_meet
      case rel => exact ⟨max (x.toNat : Int) (-1), by omega, H13⟩
    | false =>
      go_wp2_with fail
      go_meet
      case rel => exact ⟨-1, by decide, H12⟩
  clear H12
  obtain ⟨q, hq, H12⟩ := hcut
  have HQB : Hid (Bd (S0, q, false)) := Hid.mk' hq
  clear hq
  go_wp2_with fail
  refine (jdo_spec H12 celly_emp hT HQB.out (by show S0.length ≤ 1000; rw [HNN.out]; decide) HR.out HSZ.out).mono ?_
  rintro e w14 ⟨rfl, H14⟩
  rw [← HE.out] at H14 ⊢
  have hdo : doR (S0, q, false) E = (errOf (runW (S0, q, false) (doW E)).1, (runW (S0, q, false) (doW E)).2) := by
    rw [doR, if_pos HOK.out.1, if_pos (by show thereC S0.length E = true; rw [HNN.out]; exact HOK.out.2)]
  rw [hdo] at H14 ⊢
  simp only at H14 ⊢
  have hinv := do_inv (st := (S0, q, false)) (E := E) (by show 34 ≤ S0.length; rw [HNN.out]; decide) H64.out HQB.out HZ0.out HOK.out.1
  have hbd2 := (runW_inv (l := doW E) HQB.out (show S64 (S0, q, false) from H64.out)).1
  obtain ⟨told, htold⟩ : ∃ b, (runW (S0, q, false) (doW E)).1 = b := ⟨_, rfl⟩
  obtain ⟨st2, hst2⟩ : ∃ s, (runW (S0, q, false) (doW E)).2 = s := ⟨_, rfl⟩
  rw [hst2] at hinv hbd2 H14
  rw [htold] at hinv ⊢
  have HI2 : Hid (InvJ S0 E st2.1 ∧ (told = true → InvA S0 E st2.1) ∧ Bd st2) := Hid.mk' ⟨hinv.1, hinv.2, hbd2⟩
  obtain ⟨z, hz⟩ : ∃ z, z = errOf told := ⟨_, rfl⟩
  have HZ := Hid.mk' hz
  rw [← hz]
  clear hdo hinv hbd2 htold hst2 hz H12
  have hp12 : P ≤ 12 := by omega
  go_wp2_with fail
  go_loopw [11] (fun i wx => ∃ (j : Nat) (st : DSt), i = .int .i64 (j : Int) ∧ 1 ≤ j ∧ j ≤ 13 ∧ Hid (InvJ S0 E st.1 ∧ (told = true → InvA S0 E st.1) ∧ Bd st) ∧ Holds wx R12 (star (dA pd st) emp)) (fun i _ => 14 - (intOf i).toNat)
  case atStart => exact ⟨1, st2, rfl, Nat.le_refl _, by decide, HI2, H14⟩
  case round =>
    clear H14 HI2
    obtain ⟨j, st, rfl, hj1, hj, HI, H15⟩ := hrel
    by_cases hlt : j < P
    · have d1 : decide ((j : Int) < (P : Int)) = true := by simp; omega
      have d1n : decide (j < P) = true := by simp; omega
      obtain ⟨b1, o1, rfl, hc⟩ := RdB.open (n := P) (cap := cp) (l := ps) (HP.out.world H15) (by rw [← HPN.out]; omega)
      have cr := hc j (by rw [← HPN.out]; exact hlt)
      generalize ps[j]'(by rw [← HPN.out]; exact hlt) = x at cr
      have hx := u8_lt x
      have i1 : (0 : Int) ≤ (j : Int) := by omega
      have i2 : (j : Int) < (P : Int) := by omega
      clear hc
      go_wp2_with fail
      refine (dpower_spec (n := (x.toNat : Int)) H15).mono ?_
      rintro e w16 ⟨rfl, H16⟩
      obtain ⟨st3, hst3⟩ : ∃ s : DSt, s = (st.1, max (x.toNat : Int) (-1), false) := ⟨_, rfl⟩
      replace H16 : Holds w16 R12 (star (dA pd st3) emp) := by rw [hst3]; exact H16
      have hi3 : InvJ S0 E st3.1 ∧ (told = true → InvA S0 E st3.1) ∧ Bd st3 := by
        rw [hst3]
        exact ⟨HI.out.1, HI.out.2.1, (by omega : -1 ≤ max (x.toNat : Int) (-1) ∧ max (x.toNat : Int) (-1) ≤ 9223372036854775807)⟩
      have HI3 := Hid.mk' hi3
      clear hst3 hi3 H15 cr
      go_wp2_with fail
      refine (jrec_spec H16 celly_emp hT HI3.out.2.2 (fun s hs => by rw [HI3.out.1.2.1 s hs]; decide) (by rw [HI3.out.1.1, HNN.out]; decide)).mono ?_
      rintro e w17 ⟨F, ok, hG, rfl, H17⟩
      obtain ⟨r1, r2, _⟩ := rec_inv (by rw [HNN.out]; decide) HOK.out.1 (by rw [HNN.out]; exact HOK.out.2) HI3.out.1 HI3.out.2.2 hG
      have r3 := (runW_inv (l := againW st3.1 F) HI3.out.2.2 (show S64 st3 from HI3.out.1.2.1)).1
      obtain ⟨st4, hst4⟩ : ∃ s, (runW st3 (againW st3.1 F)).2 = s := ⟨_, rfl⟩
      rw [hst4] at r1 r2 r3 H17
      have HI4 : Hid (InvJ S0 E st4.1 ∧ (told = true → InvA S0 E st4.1) ∧ Bd st4) := Hid.mk' ⟨r1, fun h => r2 (HI3.out.2.1 h), r3⟩
      clear hst4 r1 r2 r3 hG H16
      go_wp2_with fail
      go_roundw
      case rel => exact ⟨j + 1, st4, by go_num, by omega, by omega, HI4, H17⟩
      case measure => simp [intOf]; omega
    · have d1 : decide ((j : Int) < (P : Int)) = false := by simp; omega
      have d1n : decide (j < P) = false := by simp; omega
      go_wp2_with fail
      refine (dpower_spec (n := -1) H15).mono ?_
      rintro e w16 ⟨rfl, H16⟩
      obtain ⟨S2, hS2⟩ : ∃ S, S = st.1 := ⟨_, rfl⟩
      replace H16 : Holds w16 R12 (star (dA pd (S2, -1, false)) emp) := by rw [hS2]; exact H16
      have hi2 : InvJ S0 E S2 ∧ (told = true → InvA S0 E S2) := by rw [hS2]; exact ⟨HI.out.1, HI.out.2.1⟩
      have HI2 := Hid.mk' hi2
      clear hS2 hi2 H15
      go_wp2_with fail
      refine (jrec_spec H16 celly_emp hT (show Bd (S2, -1, false) from (by decide : (-1 : Int) ≤ -1 ∧ (-1 : Int) ≤ 9223372036854775807)) (fun s hs => by rw [HI2.out.1.2.1 s hs]; decide) (by show S2.length ≤ 1000; rw [HI2.out.1.1, HNN.out]; decide)).mono ?_
      rintro e w17 ⟨F, ok, hG, rfl, H17⟩
      obtain ⟨r1, r2, r3⟩ := rec_inv (st := (S2, -1, false)) (by rw [HNN.out]; decide) HOK.out.1 (by rw [HNN.out]; exact HOK.out.2) HI2.out.1 (show Bd (S2, -1, false) from (by decide : (-1 : Int) ≤ -1 ∧ (-1 : Int) ≤ 9223372036854775807)) hG
      have hfu := runW_full _ S2 r3
      have hcl := again_clean (st := (S2, -1, false)) hG (by rw [hfu])
      rw [hfu] at r1 r2 hcl H17 ⊢
      obtain ⟨T, hT2⟩ : ∃ T, apW S2 (againW S2 F) = T := ⟨_, rfl⟩
      simp only at r1 r2 hcl H17 ⊢
      rw [hT2] at r1 r2 hcl H17
      obtain ⟨e1, e2⟩ := end_inv (by rw [HNN.out]; decide) HCL0.out HOK.out.1 r1 hcl
      have HTT : Hid ((T = S0 ∨ T = apW S0 E) ∧ (told = true → T = apW S0 E)) := Hid.mk' ⟨e1, fun h => e2 (r2 (HI2.out.2 h))⟩
      have HTC : Hid (cleanS T = true ∧ T.length = 50 ∧ ∀ s ∈ T, s.length = 64) := Hid.mk' ⟨hcl, by rw [r1.1, HNN.out], r1.2.1⟩
      clear hG r1 r2 r3 hfu hcl hT2 e1 e2 H16
      rw [show errOf true = 0 from rfl]
      go_wp2_with fail
      refine (jclean_spec H17 (fun s hs => by rw [HTC.out.2.2 s hs]; decide) (by show T.length ≤ 1000; rw [HTC.out.2.1]; decide)).mono ?_
      rintro e w18 ⟨rfl, H18⟩
      rw [show cleanS (T, -1, false).1 = true from HTC.out.1]
      clear H17
      go_wp2_with fail
      refine (dimage_spec H18 HTC.out.2.2 (by show T.length ≤ 1000; rw [HTC.out.2.1]; decide)).mono ?_
      rintro e w19 ⟨o19, rfl, H19⟩
      obtain ⟨FT, hFT⟩ : ∃ F, F = T.flatten := ⟨_, rfl⟩
      have HFT := Hid.mk' hFT
      rw [show (T, (-1 : Int), false).1.flatten = FT from hFT.symm] at H19
      obtain ⟨R20, le20, H20, hr20⟩ := H19.freezeRow
      have hr20' : RdB R20.cell? o19 FT := hr20
      obtain ⟨aT, cT, rfl⟩ := hr20'.form
      have HRT := Hid.mk' hr20'
      have HFTL : Hid (FT.length ≤ 1000000) := Hid.mk' (by rw [hFT, flatten_len HTC.out.2.2, HTC.out.2.1]; decide)
      have HA1' : Hid (RdB R20.cell? (.slice aA n1 cA) F1) := Hid.mk' (Rd.le HA1.out le20)
      have HBF' : Hid (RdB R20.cell? (.slice am n0 cm) F0) := Hid.mk' (Rd.le HBF.out le20)
      have hT20 := le20.blk _ _ hT
      replace leA := leA.trans le20
      clear hFT hr20 hr20' H18 H19
      obtain ⟨nT, hnT⟩ : ∃ n, n = FT.length := ⟨_, rfl⟩
      have HRT2 : Hid (RdB R20.cell? (.slice aT nT cT) FT) := Hid.mk' (by rw [hnT]; exact HRT.out)
      rw [← hnT]
      clear hnT
      go_upto_region 20 with fail
      go_cut [103] (fun x wx => x = .bool false ∧ Holds wx R20 (star (dA pd (T, -1, false)) emp))
      case first =>
        cases told with
        | true =>
          have hTA : FT = F1 := by rw [HFT.out, HF1.out, HTT.out.2 rfl]
          have HTA := Hid.mk' hTA
          obtain rfl : z = 0 := by rw [HZ.out]; rfl
          clear hTA
          go_wp2_with fail
          refine (same_spec (HRT2.out.world H20) (HA1'.out.world H20) HFTL.out HF1L.out).mono ?_
          rintro e w21 ⟨rfl, q21, rfl⟩
          rw [decide_eq_true HTA.out]
          have H21 := H20.drewN q21
          go_wp2_with fail
          refine (same_spec (HRT2.out.world H21) (HA1'.out.world H21) HFTL.out HF1L.out).mono ?_
          rintro e w22 ⟨rfl, q22, rfl⟩
          rw [decide_eq_true HTA.out]
          have H22 := H20.drewN (q21 + q22)
          go_wp2_with fail
          go_meet
          case rel => exact ⟨rfl, H22⟩
        | false =>
          obtain rfl : z = 15 := by rw [HZ.out]; rfl
          go_wp2_with fail
          refine (same_spec (HRT2.out.world H20) (HA1'.out.world H20) HFTL.out HF1L.out).mono ?_
          rintro e w21 ⟨rfl, q21, rfl⟩
          have H21 := H20.drewN q21
          by_cases hTA : FT = F1
          · rw [decide_eq_true hTA]
            clear hTA
            go_wp2_with fail
            go_meet
            case rel => exact ⟨rfl, H21⟩
          · rw [decide_eq_false hTA]
            have hTB : FT = F0 := by
              rcases HTT.out.1 with h | h
              · rw [HFT.out, HF0.out, h]
              · exact absurd (by rw [HFT.out, HF1.out, h]) hTA
            have HTB := Hid.mk' hTB
            clear hTA hTB
            go_wp2_with fail
            refine (same_spec (HRT2.out.world H21) (HBF'.out.world H21) HFTL.out HF0L.out).mono ?_
            rintro e w22 ⟨rfl, q22, rfl⟩
            rw [decide_eq_true HTB.out]
            have H22 := H20.drewN (q21 + q22)
            go_wp2_with fail
            go_meet
            case rel => exact ⟨rfl, H22⟩
      clear H20
      obtain ⟨rfl, H20⟩ := hcut
      rename_i K9 hK9
      refine hK9 _ _ ?_
      clear hK9 K9
      go_wp2_with fail
      refine (dpower_spec (n := 0) H20).mono ?_
      rintro e w23 ⟨rfl, H23⟩
      replace H23 : Holds w23 R20 (star (dA pd (T, 0, false)) emp) := H23
      clear H20
      go_wp2_with fail
      refine (jrec_spec H23 celly_emp hT20 (show Bd (T, 0, false) from (by decide : (-1 : Int) ≤ 0 ∧ (0 : Int) ≤ 9223372036854775807)) (fun s hs => by rw [HTC.out.2.2 s hs]; decide) (by show T.length ≤ 1000; rw [HTC.out.2.1]; decide)).mono ?_
      rintro e w24 ⟨F', ok', hG', rfl, H24⟩
      have hno := again_none (by rw [HTC.out.2.1]; decide) HTC.out.1 hG'
      simp only at hno H24 ⊢
      rw [hno] at H24 ⊢
      replace H24 : Holds w24 R20 (star (dA pd (T, 0, false)) emp) := H24
      rw [show errOf (runW (T, 0, false) []).1 = 0 from rfl]
      clear hno hG' H23
      go_wp2_with fail
      refine (ddead_spec H24).mono ?_
      rintro e w25 ⟨rfl, rfl⟩
      go_wp2_with fail
      refine (dimage_spec H24 HTC.out.2.2 (by show T.length ≤ 1000; rw [HTC.out.2.1]; decide)).mono ?_
      rintro e w26 ⟨o26, rfl, H26⟩
      rw [show (T, (0 : Int), false).1.flatten = FT from HFT.out.symm] at H26
      clear H24
      go_wp2_with fail
      refine (same_self H26.rowRd (HRT2.out.world H26) HFTL.out).mono ?_
      rintro e w27 ⟨rfl, q27, rfl⟩
      have H27 := (H26.drewN q27).drop.drop
      clear H26
      go_wp2_with fail
      refine (alive19 H27 celly_emp).mono ?_
      rintro e w28 ⟨rfl, H28⟩
      go_wp2_with fail
      go_ret
      exact ⟨rfl, hg ▸ H28.toBelow leA⟩
end Sh
/- How changes read as an argument. -/
set_option linter.unusedVariables false
set_option linter.unusedSimpArgs false
namespace Sh
open Go Go.RowKit Go.Proofs
set_option maxRecDepth 100000 in
theorem read_ch {H : Type} {enc : TypeId × Value → H} {w : World} {base : Nat} {spare : Nat → Bool} {held : Bool} {fuel : Nat} {cs : List Value} {x : DataW H × List MemPlace} (h : DataW.trod enc Try.prog w base spare held fuel 169 cs = some x) :
    ∃ c : Ch, cs = c.cells ∧ RdB w.cell? c.v c.data := by
  obtain ⟨hl, n, hf⟩ := read_fields Try.underlying169 h
  have hl : cs.length = 2 := hl
  match cs, hl with
  | [c0, c1], _ =>
    obtain ⟨y0, h0⟩ := hf 0 _ rfl
    obtain ⟨y1, h1⟩ := hf 1 _ rfl
    obtain ⟨a0, e0, _⟩ := read_int Try.underlying3 h0
    obtain ⟨v1, a1, e1, g1⟩ := read_bytes Try.underlying22 Try.underlying5 (by kernel_rfl) h1
    obtain rfl : c0 = .int .i64 a0 := List.head_eq_of_cons_eq (show [c0] = [.int .i64 a0] from e0)
    obtain rfl : c1 = v1 := List.head_eq_of_cons_eq (show [c1] = [v1] from e1)
    exact ⟨⟨a0, c1, a1⟩, rfl, g1⟩
end Sh
