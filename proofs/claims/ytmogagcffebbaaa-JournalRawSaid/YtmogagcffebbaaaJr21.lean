/- JrnAlive JrnSome JrnLaw JrnRawLaw: joined texts, each with its own sentence below. -/
import Derived.Test.YtmogagcffebbaaaJr19
import Derived.Test.YtmogagcffebbaaaJr20
import Derived.Test.YtmogagcffebbaaaJr5
import Derived.Test.YtmogagcffebbaaaJr2
import Derived.Deep.RegionHeld3
import Derived.Test.YtmogagcffebbaaaJr15
/- Journal's laws: few, alive. -/
set_option linter.unusedVariables false
set_option linter.unusedSimpArgs false
namespace Sh
open Go Go.RowKit Go.Proofs
attribute [local go_sem ↓] Go.wp_at_zero Go.wp_at_succ
set_option maxHeartbeats 1000000
set_option maxRecDepth 100000

theorem few19_spec {w : World} {R : Snap} {L : Asrt} {v : Value} {cs : List Ch} (H : Holds w R L) (hr : RdC R.cell? v cs) :
    Calls Try.prog 87 #[v] w fun e w' => ∃ b, e = .returned (.bool b) ∧ (b = true → cs.length ≤ 20 ∧ ∀ x ∈ cs, x.data.length ≤ 100) ∧ Holds w' R L := by
  obtain ⟨a, c, rfl⟩ := hr.form
  have hmx := Rd.max hr.1
  unfold maxLen at hmx
  obtain ⟨n, hn⟩ : ∃ n, n = cs.length := ⟨_, rfl⟩
  have HR := Hid.mk' hr
  have HN := Hid.mk' hn
  rw [← hn] at hmx ⊢
  clear hr hn
  go_enter Try.func87, Try.ntmps87
  go_wp2_with fail
  go_loopw [7] (fun i wx => ∃ (j : Nat), i = .int .i64 j ∧ j ≤ n ∧ Hid (∀ k (h : k < cs.length), k < j → cs[k].data.length ≤ 100) ∧ Holds wx R L) (fun i _ => n - (intOf i).toNat)
  case atStart => exact ⟨0, rfl, Nat.zero_le _, Hid.mk' (fun k _ h => absurd h (Nat.not_lt_zero k)), H⟩
  case round =>
    clear H
    obtain ⟨j, rfl, hj, hA, H3⟩ := hrel
    by_cases hlt : j < n
    · have d1 : decide ((j : Int) < (n : Int)) = true := by simp; omega
      have hjs : j < cs.length := by rw [← HN.out]; exact hlt
      obtain ⟨b2, o2, rfl, hc0, hc1, hq⟩ := RdC.at HR.out hjs
      obtain ⟨l, hl⟩ : ∃ l, l = cs[j].data.length := ⟨_, rfl⟩
      have HL : Hid (∀ h : j < cs.length, cs[j].data.length = l) := Hid.mk' (fun _ => hl.symm)
      generalize cs[j] = x at hc0 hc1 hq hl
      obtain ⟨xa, xv, xd⟩ := x
      simp only at hc0 hc1 hq hl
      obtain ⟨ax, cx, rfl⟩ := hq.form
      rw [← hl] at hc1
      have hlm := Rd.max hq
      rw [← hl] at hlm
      unfold maxLen at hlm
      replace hc0 := H3.cell hc0
      replace hc1 := H3.cell hc1
      have i1 : (0 : Int) ≤ (j : Int) := by omega
      have i2 : (j : Int) < (n : Int) := by omega
      have H4 := H3.garbage (.cells #[.int .i64 xa, .slice ax l cx] tChg)
      clear hq hl hjs
      by_cases h100 : 100 < l
      · have t1 : decide ((100 : Int) < (l : Int)) = true := by simp; omega
        have t1n : decide (100 < l) = true := by simp; omega
        go_wp2_with fail
        go_ret
        exact ⟨false, rfl, (fun h => by cases h), H4⟩
      · have t1 : decide ((100 : Int) < (l : Int)) = false := by simp; omega
        have t1n : decide (100 < l) = false := by simp; omega
        go_wp2_with fail
        go_roundw
        case rel =>
          refine ⟨j + 1, by go_num, hlt, Hid.mk' (fun k h h2 => ?_), H4⟩
          rcases Nat.lt_or_ge k j with h3 | h3
          · exact hA.out k h h3
          · obtain rfl : k = j := by omega
            rw [HL.out]; omega
        case measure => simp [intOf]; omega
    · have d1 : decide ((j : Int) < (n : Int)) = false := by simp; omega
      obtain rfl : j = n := by omega
      have HD : Hid (∀ x ∈ cs, x.data.length ≤ 100) := Hid.mk' (fun x hx => by
        obtain ⟨i, hi, rfl⟩ := List.mem_iff_getElem.1 hx
        exact hA.out i hi (by rw [HN.out]; exact hi))
      clear hA
      by_cases h50 : j ≤ 20
      · have t1 : decide ((j : Int) ≤ 20) = true := by simp; omega
        have t1n : decide (j ≤ 20) = true := by simp; omega
        go_wp2_with fail
        go_ret
        exact ⟨true, rfl, (fun _ => ⟨h50, HD.out⟩), H3⟩
      · have t1 : decide ((j : Int) ≤ 20) = false := by simp; omega
        have t1n : decide (j ≤ 20) = false := by simp; omega
        go_wp2_with fail
        go_ret
        exact ⟨false, rfl, (fun h => by cases h), H3⟩
theorem doW_fit {n : Nat} {E : List En} (h : checkC E = 0) (hth : thereC n E = true) : ∀ c ∈ doW E, wFit n c.1 c.2 = true := by
  intro c hc
  have hth2 := hth
  rw [thereC, Bool.and_eq_true] at hth2
  have hn := of_decide_eq_true hth2.2
  obtain ⟨hl1, hl2⟩ := putC_bd h
  unfold doW at hc
  split at hc
  · cases hc
  · rw [wFit]
    refine decide_eq_true ?_
    simp only [List.mem_append, List.mem_singleton] at hc
    rcases hc with hc | rfl | hc | rfl | hc
    · obtain ⟨i, hi, rfl⟩ := bodW_mem hc
      refine ⟨by simp; omega, .inr ?_⟩
      simp only
      rw [List.getD_eq_getElem?_getD, List.getElem?_eq_getElem (by omega), Option.getD_some]
      exact putC_64 _ (List.getElem_mem _)
    · refine ⟨by simp; omega, .inr ?_⟩
      simp only
      rw [List.getD_eq_getElem?_getD, List.getElem?_eq_getElem (by omega), Option.getD_some]
      exact putC_64 _ (List.getElem_mem _)
    · have h1 := List.all_eq_true.1 (checkC_ok h).1 c hc
      have h2 := List.all_eq_true.1 (checkC_ok h).2.2.1 c hc
      have h3 := List.all_eq_true.1 hth2.1 c hc
      unfold placeC at h1
      unfold formC at h2
      simp only [Bool.or_eq_true, Bool.and_eq_true, decide_eq_true_eq] at h1 h2 h3
      exact ⟨⟨by omega, h3⟩, h2⟩
    · exact ⟨by simp; omega, .inl rfl⟩
    · obtain ⟨i, hi, rfl⟩ := clrW_mem hc
      exact ⟨by simp; omega, .inl rfl⟩
theorem runW_enough (l : List En) : ∀ S : List (List UInt8), (∀ c ∈ l, wFit S.length c.1 c.2 = true) → runW (S, (l.length : Int), false) l = (true, (apW S l, 0, false)) := by
  induction l with
  | nil => intro S _; rfl
  | cons c l ih =>
    intro S h
    have hf := h c List.mem_cons_self
    have hs : spendOk ((l.length + 1 : Nat) : Int) false = true := by simp [spendOk]; omega
    have hc : wrOk (S, ((l.length + 1 : Nat) : Int), false) c = true := by
      rw [wrOk, wOk, hf]; exact hs
    have hw : wrSt (S, ((l.length + 1 : Nat) : Int), false) c = (S.set c.1.toNat (pad64 c.2), (l.length : Int), false) := by
      unfold wrSt
      rw [show wS S ((l.length + 1 : Nat) : Int) false c.1 c.2 = S.set c.1.toNat (pad64 c.2) from wS_yes hc, wLeft, wDead, hf, if_pos rfl, if_pos rfl, spendLeft, hs, if_pos ⟨rfl, (by omega : (0 : Int) < ((l.length + 1 : Nat) : Int))⟩]
      rw [show ((l.length + 1 : Nat) : Int) - 1 = (l.length : Int) by omega]
      rfl
    rw [List.length_cons, runW, if_pos hc, hw, ih _ (fun c' hc' => by rw [List.length_set]; exact h c' (List.mem_cons_of_mem _ hc')), apW_cons]
theorem runW_dark {c : En} {l : List En} {S : List (List UInt8)} (h : wFit S.length c.1 c.2 = true) : runW (S, 0, false) (c :: l) = (false, (S, 0, true)) := by
  have hc : wrOk (S, 0, false) c = false := by rw [wrOk, wOk, h]; rfl
  have hw : wrSt (S, 0, false) c = (S, 0, true) := by
    unfold wrSt
    rw [show wS S 0 false c.1 c.2 = S from wS_no hc, wLeft, wDead, h]
    rfl
  rw [runW, if_neg (by rw [hc]; decide), hw]
theorem en36 : checkC [(36, [])] = 0 := by decide
theorem en36_th : thereC 40 [(36, [])] = true := by decide
theorem en36_len : (doW [(36, [])]).length = 5 := by
  have h : (putC [(36, [])]).length = 2 := by rw [putC_len, textC_len]; decide
  rw [doW, if_neg (by simp), h]
  simp [bodW, clrW]
set_option maxHeartbeats 8000000
theorem alive19 {w : World} {R : Snap} {L : Asrt} (H : Holds w R L) (hcy : L.celly) : Calls Try.prog 88 #[] w fun e w' => e = .returned (.bool true) ∧ Holds w' R L := by
  obtain ⟨E, hE⟩ : ∃ E : List En, E = [(36, [])] := ⟨_, rfl⟩
  obtain ⟨S0, hS0⟩ : ∃ S, S = zeros (secN 40) := ⟨_, rfl⟩
  have hl40 : S0.length = 40 := by rw [hS0, zeros, List.length_replicate]; rfl
  have h64 : ∀ s ∈ S0, s.length = 64 := by rw [hS0]; exact all_zeros
  have hz : S0[1]? = some Z64 := by rw [hS0]; rfl
  have hck : checkC E = 0 := by rw [hE]; exact en36
  have hth : thereC S0.length E = true := by rw [hE, hl40]; exact en36_th
  have hfit : ∀ c ∈ doW E, wFit S0.length c.1 c.2 = true := doW_fit hck hth
  obtain ⟨S1, hS1⟩ : ∃ S, S = apW S0 (doW E) := ⟨_, rfl⟩
  have hr1 : runW (S0, 5, false) (doW E) = (true, (S1, 0, false)) := by
    have := runW_enough (doW E) S0 hfit
    rwa [hE, en36_len, ← hE, ← hS1] at this
  have hl1 : S1.length = 40 := by rw [hS1, apW_len, hl40]
  have hd1 : doR (S0, 5, false) E = (0, (S1, 0, false)) := by
    rw [doR, if_pos hck, if_pos hth, hr1]; rfl
  have hth1 : thereC S1.length E = true := by rw [hl1, ← hl40]; exact hth
  have hd2 : doR (S1, 0, false) E = (15, (S1, 0, true)) := by
    rw [doR, if_pos hck, if_pos hth1]
    have hne : doW E ≠ [] := fun h => by
      have := congrArg List.length h
      rw [hE, en36_len] at this
      cases this
    obtain ⟨c, l, hcl⟩ := List.exists_cons_of_ne_nil hne
    have hf : wFit S1.length c.1 c.2 = true := by rw [hl1, ← hl40]; exact hfit c (by rw [hcl]; exact List.mem_cons_self)
    rw [hcl, runW_dark hf]; rfl
  have hinv := do_inv (st := (S0, 5, false)) (E := E) (by rw [hl40]; decide) h64 (show Bd (S0, 5, false) from (by decide : (-1 : Int) ≤ 5 ∧ (5 : Int) ≤ 9223372036854775807)) hz hck
  rw [hr1] at hinv
  have hz1 : S1[1]? = some Z64 := (hinv.2 rfl).1
  have h641 : ∀ s ∈ S1, s.length = 64 := hinv.1.2.1
  have hrec : ∀ F ok, GotC (jS S1) F ok → (runW (S1, -1, false) (againW S1 F)).1 = true ∧ cleanS (runW (S1, -1, false) (againW S1 F)).2.1 = true ∧ (∀ s ∈ (runW (S1, -1, false) (againW S1 F)).2.1, s.length ≤ 1000000) ∧ (runW (S1, -1, false) (againW S1 F)).2.1.length ≤ 1000 := by
    intro F ok hG
    have hF := got_clear hz1 hG
    subst hF
    have hfit2 : ∀ c ∈ againW S1 [], wFit S1.length c.1 c.2 = true := by
      rw [againW, ite_self, List.nil_append]
      intro c hc
      obtain ⟨_, h2, h3, h4⟩ := clrN_in c hc
      rw [wFit, h2]
      exact decide_eq_true ⟨⟨h4, h3⟩, .inl rfl⟩
    have hfu := runW_full _ S1 hfit2
    have h1 : (runW (S1, -1, false) (againW S1 [])).1 = true := by rw [hfu]
    obtain ⟨k1, k2, k3⟩ := runW_inv (st := (S1, -1, false)) (l := againW S1 []) (show Bd (S1, -1, false) from (by decide : (-1 : Int) ≤ -1 ∧ (-1 : Int) ≤ 9223372036854775807)) h641
    exact ⟨h1, again_clean (st := (S1, -1, false)) hG h1, fun s hs => by rw [k2 s hs]; decide, by rw [k3, hl1]; decide⟩
  have HE := Hid.mk' hE
  have HS0 := Hid.mk' hS0
  have HD1 := Hid.mk' hd1
  have HD2 := Hid.mk' hd2
  have HREC := Hid.mk' hrec
  have HL0 := Hid.mk' hl40
  have HL1 := Hid.mk' hl1
  have H61 := Hid.mk' h641
  clear hE hS0 hl40 h64 hz hck hth hfit hS1 hr1 hl1 hd1 hth1 hd2 hinv hz1 h641 hrec
  go_enter Try.func88, Try.ntmps88
  go_wp2_with fail
  refine (new_crc H).mono ?_
  rintro e w1 ⟨p, rfl, H1⟩
  obtain ⟨R1, le1, H2, hT⟩ := H1.freezeBlk
  clear H1 H
  go_wp2_with fail
  refine (disknew_spec (n := 40) H2).mono ?_
  rintro e w3 ⟨pd, rfl, H3⟩
  rw [← HS0.out] at H3
  clear H2
  go_wp2_with fail
  refine (dpower_spec (n := 5) H3).mono ?_
  rintro e w4 ⟨rfl, H4⟩
  replace H4 : Holds w4 R1 (star (dA pd (S0, 5, false)) L) := H4
  clear H3
  go_wp2_with fail
  obtain ⟨R5, le5, H5, hr5⟩ := ((H4.alloc #[.int .i64 36, .slice none 0 0] tChg).toRow 2 1 1 (Nat.le_refl _) (by decide) rfl).freezeRow
  have HC5 := Hid.mk' (cl1 _ _ _ hr5)
  have hsz : SzC [⟨36, .slice none 0 0, []⟩] := ⟨by simp, fun x hx => by obtain rfl := List.mem_singleton.1 hx; simp⟩
  have HSZ := Hid.mk' hsz
  have hT5 := le5.blk _ _ hT
  clear H4 hr5 hsz
  refine (jdo_spec H5 hcy hT5 (show Bd (S0, 5, false) from (by decide : (-1 : Int) ≤ 5 ∧ (5 : Int) ≤ 9223372036854775807)) (by rw [HL0.out]; decide) HC5.out HSZ.out).mono ?_
  rintro e w6 ⟨rfl, H6⟩
  rw [show conC [⟨36, .slice none 0 0, []⟩] = E from HE.out.symm, HD1.out] at H6 ⊢
  clear H5
  go_wp2_with fail
  obtain ⟨R7, le7, H7, hr7⟩ := ((H6.alloc #[.int .i64 36, .slice none 0 0] tChg).toRow 2 1 1 (Nat.le_refl _) (by decide) rfl).freezeRow
  have HC7 := Hid.mk' (cl1 _ _ _ hr7)
  have hT7 := le7.blk _ _ hT5
  clear H6 hr7
  refine (jdo_spec H7 hcy hT7 (show Bd (S1, 0, false) from (by decide : (-1 : Int) ≤ 0 ∧ (0 : Int) ≤ 9223372036854775807)) (by rw [HL1.out]; decide) HC7.out HSZ.out).mono ?_
  rintro e w8 ⟨rfl, H8⟩
  rw [show conC [⟨36, .slice none 0 0, []⟩] = E from HE.out.symm, HD2.out] at H8 ⊢
  clear H7
  go_wp2_with fail
  refine (dpower_spec (n := -1) H8).mono ?_
  rintro e w9 ⟨rfl, H9⟩
  replace H9 : Holds w9 R7 (star (dA pd (S1, -1, false)) L) := H9
  clear H8
  go_wp2_with fail
  refine (jrec_spec H9 hcy hT7 (show Bd (S1, -1, false) from (by decide : (-1 : Int) ≤ -1 ∧ (-1 : Int) ≤ 9223372036854775807)) (fun s hs => by rw [H61.out s hs]; decide) (by rw [HL1.out]; decide)).mono ?_
  rintro e w10 ⟨F, ok, hG, rfl, H10⟩
  obtain ⟨k1, k2, k3, k4⟩ := HREC.out F ok hG
  rw [show errOf (runW (S1, -1, false) (againW S1 F)).1 = 0 by rw [k1]; rfl]
  clear H9 hG k1
  obtain ⟨T, hT⟩ : ∃ T, T = (runW (S1, -1, false) (againW S1 F)).2 := ⟨_, rfl⟩
  replace H10 : Holds w10 R7 (star (dA pd T) L) := by rw [hT]; exact H10
  replace k2 : cleanS T.1 = true := by rw [hT]; exact k2
  replace k3 : ∀ s ∈ T.1, s.length ≤ 1000000 := by rw [hT]; exact k3
  replace k4 : T.1.length ≤ 1000 := by rw [hT]; exact k4
  have K2 := Hid.mk' k2
  have K3 := Hid.mk' k3
  have K4 := Hid.mk' k4
  clear hT k2 k3 k4
  go_wp2_with fail
  refine (jclean_spec H10 K3.out K4.out).mono ?_
  rintro e w11 ⟨rfl, H11⟩
  rw [K2.out]
  go_wp2_with fail
  go_ret
  exact ⟨rfl, (H11.drop).weaken (le1.trans (le5.trans le7))⟩
end Sh
/- sherdlaw19.some: two disks alike, whose journal is clear. -/
set_option linter.unusedVariables false
set_option linter.unusedSimpArgs false
namespace Sh
open Go Go.RowKit Go.Proofs
attribute [local go_sem ↓] Go.wp_at_zero Go.wp_at_succ
set_option maxHeartbeats 1000000
set_option maxRecDepth 100000

theorem some_wr {S : List (List UInt8)} {c : En} (h : outJ c) : ∃ S', wrSt (S, -1, false) c = (S', -1, false) ∧ S'.length = S.length ∧ cleanS S' = cleanS S ∧ ((∀ s ∈ S, s.length = 64) → ∀ s ∈ S', s.length = 64) := by
  refine ⟨wS S (-1) false c.1 c.2, ?_, ?_, ?_, ?_⟩
  · unfold wrSt
    simp only
    have h1 : wLeft S.length (-1) false c.1 c.2 = -1 := by rw [wLeft]; split <;> rfl
    have h2 : wDead S.length (-1) false c.1 c.2 = false := by rw [wDead]; split <;> rfl
    rw [h1, h2]
  · exact wrSt_len (S, -1, false) c
  · cases ho : wOk S.length (-1) false c.1 c.2 with
    | true =>
      rw [wS_yes ho]
      exact clean_out (S := S) (l := [c]) (fun d hd => by rw [List.mem_singleton.1 hd]; exact h)
    | false => rw [wS_no ho]
  · intro h64
    exact S64.wr (st := (S, -1, false)) h64 c
theorem zeros_clean (n : Nat) : cleanS (zeros n) = true := by
  rw [cleanS_iff]
  intro i _ h
  rw [List.getElem?_eq_getElem h]
  exact congrArg some (List.getElem_replicate ..)
set_option maxHeartbeats 8000000
theorem some19 {w : World} {R : Snap} {L : Asrt} {n : Int} {v : Value} {b : List UInt8} (H : Holds w R L) (hr : RdB R.cell? v b) (hb : 0 < b.length ∧ b.length ≤ 100) (hn : 0 ≤ n ∧ n ≤ 100) :
    Calls Try.prog 89 #[.int .i64 n, v] w fun e w' => ∃ (pd pm : Nat) (S : List (List UInt8)), e = .returned (.tuple #[.pointer (some ⟨pd, 0, none⟩), .pointer (some ⟨pm, 0, none⟩)]) ∧ S.length = secN n ∧ (∀ s ∈ S, s.length = 64) ∧ cleanS S = true ∧ Holds w' R (star (dA pd (S, -1, false)) (star (mA pm (S, -1, false)) L)) := by
  obtain ⟨ab, cb, rfl⟩ := hr.form
  obtain ⟨bl, hbl⟩ : ∃ m, m = b.length := ⟨_, rfl⟩
  have HR : Hid (RdB R.cell? (.slice ab bl cb) b) := Hid.mk' (by rw [hbl]; exact hr)
  have HBL := Hid.mk' hbl
  rw [← hbl] at hb ⊢
  obtain ⟨hb0, hb9⟩ := hb
  obtain ⟨hn0, hn9⟩ := hn
  obtain ⟨N, hN⟩ : ∃ N, N = secN n := ⟨_, rfl⟩
  have HN := Hid.mk' hN
  have hN9 : N ≤ 100 := by rw [hN]; unfold secN; omega
  rw [← hN]
  clear hr hbl hN
  have hbpos : (0 : Int) < (bl : Int) := by omega
  have hbne : ¬ (bl : Int) = 0 := by omega
  have d0 : decide ((0 : Int) < (bl : Int)) = true := decide_eq_true hbpos
  go_enter Try.func89, Try.ntmps89
  go_wp2_with fail
  refine (disknew_spec (n := n) H).mono ?_
  rintro e w1 ⟨pd, rfl, H1⟩
  clear H
  go_wp2_with fail
  refine (mnew_spec (n := n) H1).mono ?_
  rintro e w2 ⟨pm, rfl, H2⟩
  rw [← HN.out] at H2
  clear H1
  have H3 : Holds w2 R (star (dA pd (zeros N, -1, false)) (star (mA pm (zeros N, -1, false)) L)) := H2.swap
  clear H2
  go_wp2_with fail
  go_loopw [8] (fun i wx => ∃ (j : Nat) (S : List (List UInt8)), i = .int .i64 (j : Int) ∧ j ≤ N ∧ S.length = N ∧ Hid ((∀ s ∈ S, s.length = 64) ∧ cleanS S = true) ∧ Holds wx R (star (dA pd (S, -1, false)) (star (mA pm (S, -1, false)) L))) (fun i _ => N - (intOf i).toNat)
  case atStart => exact ⟨0, zeros N, rfl, Nat.zero_le _, by rw [zeros, List.length_replicate], Hid.mk' ⟨all_zeros, zeros_clean N⟩, H3⟩
  case round =>
    clear H3
    obtain ⟨j, S, rfl, hj, hSl, HS, H4⟩ := hrel
    have HSL := Hid.mk' hSl
    have hsz := size_spec H4
    rw [hSl] at hsz
    have HSZ := Hid.mk' hsz
    clear hsz hSl
    by_cases hlt : j < N ∧ (j : Int) < n
    · obtain ⟨hlt, hjn⟩ := hlt
      have d1 : decide ((j : Int) < (N : Int)) = true := by simp; omega
      have d2 : decide ((j : Int) < n) = true := decide_eq_true hjn
      go_wp2_with fail
      refine HSZ.out.mono ?_
      rintro e w5 ⟨rfl, rfl⟩
      by_cases hjo : j = 0 ∨ 34 ≤ j
      · have HOUT : Hid (∀ x : List UInt8, outJ ((j : Int), x)) := Hid.mk' (fun x => by unfold outJ; simp; omega)
        go_upto_region 5 with fail
        go_cut [36] from 15 to 63 (fun c wx => c = .bool true ∧ wx = wr)
        case first =>
          by_cases hj0 : j = 0
          · subst hj0
            go_wp2_with fail
            go_meet
            case rel => exact ⟨rfl, rfl⟩
          · have e1 : ((j : Int) == 0) = false := by rw [beq_eq_false_iff_ne]; omega
            have e2 : decide ((34 : Int) ≤ (j : Int)) = true := by simp; omega
            have e2n : decide (34 ≤ j) = true := by simp; omega
            clear hjo
            go_wp2_with fail
            go_meet
            case rel => exact ⟨rfl, rfl⟩
        obtain ⟨rfl, rfl⟩ := hcut
        go_wp2_with (with_reducible refine stop_make ?_)
        refine Hold.go (wpList_makeB (n := 64) rfl _ _ rfl rfl rfl H4 (by omega) ?_)
        intro v2 w6 H6
        obtain ⟨a2, c2, rfl⟩ := H6.rowRd.form
        clear H4
        simp only [rowB, List.length_replicate] at H6 ⊢
        go_wp2_with fail
        go_loopw [40] (fun i wx => ∃ (k : Nat) (s : List UInt8), i = .int .i64 (k : Int) ∧ k ≤ 64 ∧ Hid (s.length = 64) ∧ Holds wx R (star (row tU8 1 (.slice a2 64 c2) 64 (u8s s)) (star (dA pd (S, -1, false)) (star (mA pm (S, -1, false)) L)))) (fun i _ => 64 - (intOf i).toNat)
        case atStart => exact ⟨0, List.replicate 64 0, rfl, Nat.zero_le _, Hid.mk' (by simp), H6⟩
        case round =>
          clear H6
          obtain ⟨k, s, rfl, hk, HS6, H7⟩ := hrel
          by_cases hk6 : k < 64
          · have d3 : decide ((k : Int) < 64) = true := by simp; omega
            have d3n : decide (k < 64) = true := by simp; omega
            obtain ⟨b1, o1, rfl, hc⟩ := RdB.open (n := bl) (cap := cb) (l := b) (HR.out.world H7) (by rw [← HBL.out]; exact hb0)
            obtain ⟨t, ht⟩ : ∃ t, t = j + k := ⟨_, rfl⟩
            have hte : (j : Int) + (k : Int) = (t : Int) := by omega
            have ht9 : t ≤ 200 := by omega
            obtain ⟨r, hr⟩ : ∃ r, r = t % bl := ⟨_, rfl⟩
            have hrb : r < bl := by rw [hr]; exact Nat.mod_lt _ hb0
            have hre : (t : Int) % (bl : Int) = (r : Int) := by rw [hr]; exact (Int.natCast_emod _ _).symm
            have hrt : (t : Int).tmod (bl : Int) = (r : Int) := by rw [hr, ← Int.ofNat_tmod]
            have cr := hc r (by rw [← HBL.out]; exact hrb)
            generalize b[r]'(by rw [← HBL.out]; exact hrb) = x at cr
            have i1 : (0 : Int) ≤ (r : Int) := by omega
            have i2 : (r : Int) < (bl : Int) := by omega
            have i3 : (0 : Int) ≤ (k : Int) := by omega
            have i4 : (k : Int) < 64 := by omega
            obtain ⟨g2, cap, e1, hc2, hg2, hcl, hfz⟩ := H7.rowAt (by omega)
            simp only [Value.slice.injEq, true_and] at e1
            obtain ⟨rfl, rfl⟩ := e1
            have hlen2 : k < (u8s s).length := by
              have := H7.rowRd.len; omega
            have ct := hcl k _ (List.getElem?_eq_getElem hlen2)
            have ft := hfz k
            have HF := Hid.mk' (row_write H7 k (x.toNat : Int) hk6 (by have := u8_lt x; omega))
            generalize (u8s s)[k] = old at ct
            clear hc hcl hfz ht hr hlen2
            go_wp2_with fail
            go_roundw
            case rel => exact ⟨k + 1, s.set k (UInt8.ofNat (x.toNat : Int).toNat), by go_num, hk6, Hid.mk' (by rw [List.length_set]; exact HS6.out), HF.out⟩
            case measure => simp [intOf]; omega
          · have d3 : decide ((k : Int) < 64) = false := by simp; omega
            have d3n : decide (k < 64) = false := by simp; omega
            obtain ⟨R8, le8, H8, hr8⟩ := H7.freezeRow
            have HR8 : Hid (RdB R8.cell? (.slice a2 64 c2) s) := Hid.mk' (by
              show Rd R8.cell? 1 (.slice a2 64 c2) s.length (u8s s)
              rw [HS6.out]; exact hr8)
            obtain ⟨S', hw, hl', hc', h64'⟩ := some_wr (S := S) (HOUT.out s)
            have HW := Hid.mk' hw
            have HL' := Hid.mk' hl'
            have HC' := Hid.mk' hc'
            have H64' := Hid.mk' h64'
            clear H7 hr8 hw hl' hc' h64'
            go_wp2_with fail
            refine (dwrite_spec (i := (j : Int)) H8 HR8.out (show (-1 : Int) ≤ -1 ∧ (-1 : Int) ≤ 9223372036854775807 by decide)).mono ?_
            rintro e w9 ⟨rfl, H9⟩
            replace H9 : Holds w9 R8 (star (dA pd (wrSt (S, -1, false) ((j : Int), s))) (star (mA pm (S, -1, false)) L)) := H9
            rw [HW.out] at H9
            clear H8
            go_wp2_with fail
            refine (mwrite_spec (i := (j : Int)) H9.swap HS.out.1 (by rw [HSL.out]; omega) HR8.out (show (-1 : Int) ≤ -1 ∧ (-1 : Int) ≤ 9223372036854775807 by decide)).mono ?_
            rintro e w10 ⟨rfl, H10⟩
            replace H10 : Holds w10 R8 (star (mA pm (wrSt (S, -1, false) ((j : Int), s))) (star (dA pd (S', -1, false)) L)) := H10
            rw [HW.out] at H10
            clear H9
            go_wp2_with fail
            go_roundw
            case rel => exact ⟨j + 1, S', by go_num, hlt, by rw [HL'.out, HSL.out], Hid.mk' ⟨H64'.out HS.out.1, by rw [HC'.out]; exact HS.out.2⟩, H10.swap.weaken le8⟩
            case measure => simp [intOf]; omega
      · have e1 : ((j : Int) == 0) = false := by rw [beq_eq_false_iff_ne]; omega
        have e2 : decide ((34 : Int) ≤ (j : Int)) = false := by simp; omega
        have e2n : decide (34 ≤ j) = false := by simp; omega
        clear hjo
        go_wp2_with fail
        go_roundw
        case rel => exact ⟨j + 1, S, by go_num, hlt, HSL.out, HS, H4⟩
        case measure => simp [intOf]; omega
    · by_cases hjN : j < N
      · have d1 : decide ((j : Int) < (N : Int)) = true := by simp; omega
        have d2 : decide ((j : Int) < n) = false := decide_eq_false (by omega)
        clear hlt
        go_wp2_with fail
        refine HSZ.out.mono ?_
        rintro e w5 ⟨rfl, rfl⟩
        go_wp2_with fail
        go_ret2
        exact ⟨pd, pm, S, rfl, HSL.out, HS.out.1, HS.out.2, H4⟩
      · have d1 : decide ((j : Int) < (N : Int)) = false := by simp; omega
        clear hlt
        go_wp2_with fail
        refine HSZ.out.mono ?_
        rintro e w5 ⟨rfl, rfl⟩
        go_wp2_with fail
        go_ret2
        exact ⟨pd, pm, S, rfl, HSL.out, HS.out.1, HS.out.2, H4⟩
end Sh
/- Journal's laws: what they share. -/
set_option linter.unusedVariables false
set_option linter.unusedSimpArgs false
namespace Sh
open Go Go.RowKit Go.Proofs
attribute [local go_sem ↓] Go.wp_at_zero Go.wp_at_succ
set_option maxHeartbeats 1000000
set_option maxRecDepth 100000

theorem chkJ_ok {n : Nat} {E : List En} (h : chkJ n E = 0) : checkC E = 0 ∧ thereC n E = true := by
  unfold chkJ at h
  by_cases h1 : checkC E = 0
  · rw [if_pos h1] at h
    by_cases h2 : thereC n E = true
    · exact ⟨h1, h2⟩
    · rw [if_neg h2] at h; cases h
  · rw [if_neg h1] at h; exact absurd h h1
theorem celly_m (p : Nat) (st : DSt) : (mA p st).celly := celly_ex fun _ => celly_star (celly_blk _ _ _) (celly_row _ _ _ _ _)
theorem secN_bd {n : Int} (h : 0 ≤ n ∧ n < 60) : 1 ≤ secN n ∧ secN n ≤ 60 := by unfold secN; omega
end Sh
/- JournalRaw: the walk. -/
set_option linter.unusedVariables false
set_option linter.unusedSimpArgs false
namespace Sh
open Go Go.RowKit Go.Proofs
attribute [local go_sem ↓] Go.wp_at_zero Go.wp_at_succ
set_option maxHeartbeats 1000000
set_option maxRecDepth 100000

/-- The same write on both disks. -/
theorem wr_lit {S : List (List UInt8)} (c : En) : ∃ S', wrSt (S, -1, false) c = (S', -1, false) ∧ S'.length = S.length ∧ ((∀ s ∈ S, s.length = 64) → ∀ s ∈ S', s.length = 64) := by
  refine ⟨wS S (-1) false c.1 c.2, ?_, ?_, ?_⟩
  · unfold wrSt
    simp only
    have h1 : wLeft S.length (-1) false c.1 c.2 = -1 := by rw [wLeft]; split <;> rfl
    have h2 : wDead S.length (-1) false c.1 c.2 = false := by rw [wDead]; split <;> rfl
    rw [h1, h2]
  · exact wrSt_len (S, -1, false) c
  · intro h64
    exact S64.wr (st := (S, -1, false)) h64 c
set_option maxHeartbeats 8000000
theorem journalRaw_walk (W : World) {n : Int} {v : Value} {mo : List (Value × List UInt8)} {p0 : Int} (hn : IntKind.u8.min ≤ n ∧ n ≤ IntKind.u8.max) (hm1 : Rd W.cell? 1 v mo.length (mo.flatMap fun q => [q.1])) (gm1 : ∀ q ∈ mo, RdB W.cell? q.1 q.2) (h0 : IntKind.i64.min ≤ p0 ∧ p0 ≤ IntKind.i64.max) :
    Calls Try.prog 20 #[.int .u8 n, v, .int .i64 p0] W fun e w' => e = .returned (.bool true) ∧ Below W.heap.size W w' := by
  have hmo : RdBB (Snap.of W).cell? v mo := secs_of hm1 gm1
  clear hm1 gm1
  obtain ⟨a, c, rfl⟩ := hmo.form
  have hmx := Rd.max hmo.1
  unfold maxLen at hmx
  obtain ⟨nn, hnn⟩ : ∃ m : Nat, n = (m : Int) := ⟨n.toNat, by have : (0 : Int) ≤ n := hn.1; omega⟩
  subst hnn
  have hn255 : nn ≤ 255 := by have h : (nn : Int) ≤ 255 := hn.2; omega
  obtain ⟨k, hk⟩ : ∃ k, k = nn % 60 := ⟨_, rfl⟩
  have hk60 : k < 60 := by omega
  have hke : (nn : Int) % 60 = (k : Int) := by omega
  have hkt : (nn : Int).tmod 60 = (k : Int) := by rw [Int.tmod_eq_emod_of_nonneg (by omega)]; omega
  obtain ⟨K, hK⟩ : ∃ K, K = mo.length := ⟨_, rfl⟩
  have HKN := Hid.mk' hK
  have H1 := Holds.start W
  have HR : Hid (RdBB (Snap.of W).cell? (.slice a mo.length c) mo) := Hid.mk' hmo
  rw [← hK] at hmx ⊢
  have HP0 : Hid (∀ S : List (List UInt8), Bd (S, max p0 (-1), false)) := Hid.mk' (fun S => by
    have h2 : p0 ≤ 9223372036854775807 := h0.2
    show -1 ≤ max p0 (-1) ∧ max p0 (-1) ≤ 9223372036854775807
    omega)
  obtain ⟨q0, hq0⟩ : ∃ q, q = max p0 (-1) := ⟨_, rfl⟩
  have HQ0 := Hid.mk' hq0
  rw [← hq0] at HP0
  obtain ⟨g, hg⟩ : ∃ g, W.heap.size = g := ⟨_, rfl⟩
  rw [hg]
  clear hmo hK hk hn h0 hq0
  by_cases h34 : 34 < K
  · have t1 : decide ((34 : Int) < (K : Int)) = true := by simp; omega
    have t1n : decide (34 < K) = true := by simp; omega
    go_enter Try.func20, Try.ntmps20
    go_wp2_with fail
    refine (alive19 H1 celly_emp).mono ?_
    rintro e w99 ⟨rfl, H99⟩
    go_wp2_with fail
    go_ret
    exact ⟨rfl, hg ▸ H99.toBelow (Snap.le.refl _)⟩
  have t1 : decide ((34 : Int) < (K : Int)) = false := by simp; omega
  have t1n : decide (34 < K) = false := by simp; omega
  go_enter Try.func20, Try.ntmps20
  go_wp2_with fail
  refine (new_crc H1).mono ?_
  rintro e w3 ⟨pt, rfl, H3⟩
  obtain ⟨R3, le3, H4, hT⟩ := H3.freezeBlk
  clear H1 H3 t1 t1n
  have H5 := blkB (H4.alloc #[.int .u8 5] tU8) [5] (n := 1) rfl rfl (by decide)
  obtain ⟨R5, le5, H6, hr6⟩ := H5.freezeRow
  have hr6' : RdB R5.cell? (.slice (some ⟨w3.heap.size, 0, none⟩) 1 1) [5] := hr6
  have HR6 := Hid.mk' hr6'
  clear H4 H5 hr6 hr6'
  go_wp2_with fail
  refine (some19 (n := (k : Int)) H6 HR6.out (by decide) (by omega)).mono ?_
  rintro e w7 ⟨pd, pm, S0, rfl, hS0, h640, _, H7⟩
  have hb := secN_bd (n := (k : Int)) (by omega)
  rw [← hS0] at hb
  obtain ⟨N, hN⟩ : ∃ N, N = S0.length := ⟨_, rfl⟩
  rw [← hN] at hb
  obtain ⟨hN1, hN9⟩ := hb
  have H64 := Hid.mk' h640
  have HNN := Hid.mk' hN
  replace hT := le5.blk _ _ hT
  replace HR := Hid.mk' (HR.out.le (le3.trans le5))
  have leA := le3.trans le5
  clear H6 hS0 h640 hN HR6 le3 le5
  go_wp2_with fail
  go_loopw [30] (fun i wx => ∃ (j : Nat) (S : List (List UInt8)), i = .int .i64 (j : Int) ∧ j ≤ K ∧ Hid (S.length = N ∧ (∀ s ∈ S, s.length = 64)) ∧ Holds wx R5 (star (dA pd (S, -1, false)) (star (mA pm (S, -1, false)) emp))) (fun i _ => K - (intOf i).toNat)
  case atStart => exact ⟨0, S0, rfl, Nat.zero_le _, Hid.mk' ⟨HNN.out.symm, H64.out⟩, H7⟩
  case round =>
    clear H7
    obtain ⟨j, S, rfl, hj, HS, H8⟩ := hrel
    by_cases hlt : j < K
    · have d1 : decide ((j : Int) < (K : Int)) = true := by simp; omega
      have hjq : j < mo.length := by rw [← HKN.out]; exact hlt
      obtain ⟨b2, o2, ha2, hc2, hq2⟩ := RdBB.at HR.out hjq
      subst ha2
      replace hc2 := H8.cell hc2
      generalize mo[j] = xy at *
      obtain ⟨vy, y2⟩ := xy
      simp only at hc2 hq2
      obtain ⟨ay, cy, rfl⟩ := hq2.form
      have hly := Rd.max hq2
      unfold maxLen at hly
      obtain ⟨l, hl⟩ : ∃ l, l = y2.length := ⟨_, rfl⟩
      rw [← hl] at hc2 hly
      have HQ2 : Hid (RdB R5.cell? (.slice ay l cy) y2) := Hid.mk' (by rw [hl]; exact hq2)
      have i1 : (0 : Int) ≤ (j : Int) := by omega
      have i2 : (j : Int) < (K : Int) := by omega
      clear hq2 hjq hl
      by_cases h64 : l = 64
      · subst h64
        obtain ⟨m1, hm1⟩ : ∃ m, m = 1 + j := ⟨_, rfl⟩
        have ha1 : (1 : Int) + (j : Int) = (m1 : Int) := by omega
        obtain ⟨S', hw, hl', h64'⟩ := wr_lit (S := S) ((m1 : Int), y2)
        have HW := Hid.mk' hw
        have HL' := Hid.mk' hl'
        have H64' := Hid.mk' h64'
        clear hm1 hw hl' h64'
        go_wp2_with fail
        refine (dwrite_spec (i := (m1 : Int)) H8 HQ2.out (show (-1 : Int) ≤ -1 ∧ (-1 : Int) ≤ 9223372036854775807 by decide)).mono ?_
        rintro e w9 ⟨rfl, H9⟩
        replace H9 : Holds w9 R5 (star (dA pd (wrSt (S, -1, false) ((m1 : Int), y2))) (star (mA pm (S, -1, false)) emp)) := H9
        rw [HW.out] at H9
        clear H8
        go_wp2_with fail
        refine (mwrite_spec (i := (m1 : Int)) H9.swap HS.out.2 (by rw [HS.out.1]; omega) HQ2.out (show (-1 : Int) ≤ -1 ∧ (-1 : Int) ≤ 9223372036854775807 by decide)).mono ?_
        rintro e w10 ⟨rfl, H10⟩
        replace H10 : Holds w10 R5 (star (mA pm (wrSt (S, -1, false) ((m1 : Int), y2))) (star (dA pd (S', -1, false)) emp)) := H10
        rw [HW.out] at H10
        clear H9
        go_wp2_with fail
        go_roundw
        case rel => exact ⟨j + 1, S', by go_num, hlt, Hid.mk' ⟨by rw [HL'.out, HS.out.1], H64'.out HS.out.2⟩, H10.swap⟩
        case measure => simp [intOf]; omega
      · have t2 : ((l : Int) != 64) = true := by rw [bne_iff_ne]; omega
        clear h64
        go_wp2_with fail
        go_roundw
        case rel => exact ⟨j + 1, S, by go_num, hlt, HS, H8⟩
        case measure => simp [intOf]; omega
    · have d1 : decide ((j : Int) < (K : Int)) = false := by simp; omega
      have d1n : decide (j < K) = false := by simp; omega
      clear hlt
      go_wp2_with fail
      refine (dpower_spec (n := p0) H8).mono ?_
      rintro e w15 ⟨rfl, H15⟩
      rw [← HQ0.out] at H15
      clear H8
      go_wp2_with fail
      refine (mpower_spec (n := p0) H15.swap).mono ?_
      rintro e w16 ⟨rfl, H16⟩
      rw [← HQ0.out] at H16
      obtain ⟨st3, hst3⟩ : ∃ s : DSt, s = (S, q0, false) := ⟨_, rfl⟩
      replace H16 : Holds w16 R5 (star (dA pd st3) (star (mA pm st3) emp)) := by rw [hst3]; exact H16.swap
      have hb3 : Bd st3 := by rw [hst3]; exact HP0.out _
      have h63 : S64 st3 := by rw [hst3]; exact HS.out.2
      have hl3 : st3.1.length = N := by rw [hst3]; exact HS.out.1
      have HB3 := Hid.mk' hb3
      have H63 := Hid.mk' h63
      have HL3 := Hid.mk' hl3
      clear hst3 hb3 h63 hl3 H15
      go_wp2_with fail
      refine (jrec_spec H16 (celly_star (celly_m _ _) celly_emp) hT HB3.out (fun s hs => by rw [H63.out s hs]; decide) (by rw [HL3.out]; omega)).mono ?_
      rintro e w17 ⟨E1, ok1, hG1, rfl, H17⟩
      have HG1 := Hid.mk' hG1
      obtain ⟨Y, hY⟩ : ∃ Y, Y = runW st3 (againW st3.1 E1) := ⟨_, rfl⟩
      rw [← hY] at H17 ⊢
      have HY := Hid.mk' hY
      clear hG1 hY H16
      go_wp2_with fail
      replace H17 : Holds w17 R5 (star (dA pd Y.2) (star (mA pm st3) emp)) := H17
      refine (rjagain_spec H17.swap H63.out (by rw [HL3.out]; omega)).mono ?_
      rintro e w18 ⟨R18, o18, ds, E2, ok2, rfl, hG2, le18, hrd, hcd, hdl, H18⟩
      obtain ⟨rfl, _⟩ := GotC.one hG2 HG1.out
      obtain ⟨ad, cd, rfl⟩ := hrd.form
      have HRD := Hid.mk' hrd
      have HCD := Hid.mk' hcd
      have HDL := Hid.mk' hdl
      clear hG2 hrd hcd hdl H17
      go_wp2_with fail
      refine (rjwrite_spec H18 HB3.out H63.out (by rw [HL3.out]; omega) HRD.out (by have := HDL.out; omega)).mono ?_
      rintro e w19 ⟨rfl, H19⟩
      rw [HCD.out, ← HY.out] at H19 ⊢
      have hT18 := le18.blk _ _ hT
      replace leA := leA.trans le18
      have hinv := runW_inv (l := againW st3.1 E2) HB3.out H63.out
      rw [← HY.out, HL3.out] at hinv
      have HIV := Hid.mk' hinv
      have hcl : Y.1 = true → cleanS Y.2.1 = true := by
        intro h
        rw [HY.out] at h ⊢
        exact again_clean HG1.out h
      have HCL := Hid.mk' hcl
      obtain ⟨ok, T⟩ := Y
      simp only at H19 HIV HCL
      obtain ⟨am3, cm3, H20⟩ := m_open H19
      have hfl := flatten_len HIV.out.2.1
      rw [HIV.out.2.2] at hfl
      obtain ⟨F3, hF⟩ : ∃ F, F = T.1.flatten := ⟨_, rfl⟩
      have HF := Hid.mk' hF
      rw [← hF] at H20 hfl
      have hF9 : F3.length ≤ 1000000 := by omega
      have HC1 : Hid (star (dA pd T) (star (blk pm #[.slice am3 F3.length cm3, .int .i64 T.2.1, .bool T.2.2] 134) (star (rowB (.slice am3 F3.length cm3) F3) emp))).celly := Hid.mk' (celly_star (celly_disk _ _ _ _) (celly_star (celly_blk _ _ _) (celly_star (celly_row _ _ _ _ _) celly_emp)))
      obtain ⟨l6, n6, c6, z6⟩ := Holds.facts (H20)
      clear hinv hcl hF hfl H18 H19 HG1 HY HRD HCD HDL
      cases ok with
      | true =>
        have HK1 : Hid (cleanS T.1 = true) := Hid.mk' (HCL.out rfl)
        simp only [errOf, if_true]
        go_upto_region 17 with fail
        go_region_held3 (fun w' => (∀ o, w'.cell? ⟨pm, o, none⟩ = #[.slice am3 F3.length cm3, .int .i64 T.2.1, .bool T.2.2][o]?)) (first | (exact H9.swap.blkCell) | (exact H11.swap.blkCell) | (exact H10.swap.blkCell) | (exact H8.swap.blkCell) | (exact (H7.drewN _).pick3.blkCell) | (exact H7.pick3.blkCell) | ((repeat' (first | assumption | (with_reducible refine And.intro ?_ ?_) | (with_reducible refine keep_drew ?_) | (with_reducible refine keep_drewN ?_) | (with_reducible refine keep_alloc ?_ (by first | assumption | (simp only [World.size_alloc, World.size_drew, World.size_setCell]; omega))) | (with_reducible refine keep_set ?_ (by first | assumption | omega))))))
          (first | (go_at_call 97; refine (dimage_spec H20.drew.pick3 HIV.out.2.1 (by rw [HIV.out.2.2]; omega)).mono ?_; rintro e w7 ⟨v7, rfl, H7⟩; rw [← HF.out] at H7) | (go_at_call 27; refine (same_self H7.rowRd H7.pick4.rowRd hF9).mono ?_; rintro e w8 ⟨rfl, q8, rfl⟩) | (go_at_call 100; first | (refine (jclean_nil H10).mono ?_; rintro e w11 ⟨rfl, H11⟩) | (refine (jclean_spec (H7.drewN q8).drop (fun s hs => by rw [HIV.out.2.1 s hs]; decide) (by rw [HIV.out.2.2]; omega)).mono ?_; rintro e w10 ⟨rfl, H8⟩; rw [HK1.out])) | (go_at_call 98; refine (jrec_nil H8).mono ?_; rintro e w12 ⟨rfl, H10⟩) | (go_at_call 88; refine (alive19 H11 HC1.out).mono ?_; rintro e w9 ⟨rfl, H9⟩))
        all_goals
          go_wp2_with fail
          go_ret
          exact ⟨rfl, hg ▸ H9.toBelow leA⟩
      | false =>
        simp only [errOf, Bool.false_eq_true, if_false]
        go_upto_region 17 with fail
        first | (go_region_with (first | (go_at_call 97; refine (dimage_spec H20.drew.pick3 HIV.out.2.1 (by rw [HIV.out.2.2]; omega)).mono ?_; rintro e w7 ⟨v7, rfl, H7⟩; rw [← HF.out] at H7; obtain ⟨l7, n7, c7, z7⟩ := Holds.facts H7.pick3) | (go_at_call 27; refine (same_self H7.rowRd H7.pick4.rowRd hF9).mono ?_; rintro e w8 ⟨rfl, q8, rfl⟩) | (go_at_call 100; refine (jclean_nil H10).mono ?_; rintro e w11 ⟨rfl, H11⟩) | (go_at_call 98; refine (jrec_nil (H7.drewN q8).drop).mono ?_; rintro e w12 ⟨rfl, H10⟩) | (go_at_call 88; refine (alive19 H11 HC1.out).mono ?_; rintro e w9 ⟨rfl, H9⟩))) | fail
        all_goals
          go_wp2_with fail
          go_ret
          exact ⟨rfl, hg ▸ H9.toBelow leA⟩
end Sh
