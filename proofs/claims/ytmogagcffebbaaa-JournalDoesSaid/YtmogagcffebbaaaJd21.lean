/- JrnAlive JrnSome PairAct JrnDoesLaw EntAct: joined texts, each with its own sentence below. -/
import Derived.Test.YtmogagcffebbaaaJd19
import Derived.Test.YtmogagcffebbaaaJd20
import Derived.Test.YtmogagcffebbaaaJd5
import Derived.Test.YtmogagcffebbaaaJd10
import Derived.Test.YtmogagcffebbaaaJd2
import Derived.WideShapes
import Derived.Deep.RegionHeld3
import Derived.Test.YtmogagcffebbaaaJd6
/- Journal's laws: few, alive. -/
set_option linter.unusedVariables false
set_option linter.unusedSimpArgs false
namespace Sh
open Go Go.RowKit Go.Proofs
attribute [local go_sem ↓] Go.wp_at_zero Go.wp_at_succ
set_option maxHeartbeats 1000000
set_option maxRecDepth 100000

theorem few19_spec {w : World} {R : Snap} {L : Asrt} {v : Value} {cs : List Ch} (H : Holds w R L) (hr : RdC R.cell? v cs) :
    Calls Try.prog 87 #[v] w fun e w' => ∃ b, e = .returned (.bool b) ∧ (b = true → cs.length ≤ 20 ∧ ∀ x ∈ cs, x.data.length ≤ 100) ∧ Holds w' R L := by
  obtain ⟨a, c, rfl⟩ := hr.form
  have hmx := Rd.max hr.1
  unfold maxLen at hmx
  obtain ⟨n, hn⟩ : ∃ n, n = cs.length := ⟨_, rfl⟩
  have HR := Hid.mk' hr
  have HN := Hid.mk' hn
  rw [← hn] at hmx ⊢
  clear hr hn
  go_enter Try.func87, Try.ntmps87
  go_wp2_with fail
  go_loopw [7] (fun i wx => ∃ (j : Nat), i = .int .i64 j ∧ j ≤ n ∧ Hid (∀ k (h : k < cs.length), k < j → cs[k].data.length ≤ 100) ∧ Holds wx R L) (fun i _ => n - (intOf i).toNat)
  case atStart => exact ⟨0, rfl, Nat.zero_le _, Hid.mk' (fun k _ h => absurd h (Nat.not_lt_zero k)), H⟩
  case round =>
    clear H
    obtain ⟨j, rfl, hj, hA, H3⟩ := hrel
    by_cases hlt : j < n
    · have d1 : decide ((j : Int) < (n : Int)) = true := by simp; omega
      have hjs : j < cs.length := by rw [← HN.out]; exact hlt
      obtain ⟨b2, o2, rfl, hc0, hc1, hq⟩ := RdC.at HR.out hjs
      obtain ⟨l, hl⟩ : ∃ l, l = cs[j].data.length := ⟨_, rfl⟩
      have HL : Hid (∀ h : j < cs.length, cs[j].data.length = l) := Hid.mk' (fun _ => hl.symm)
      generalize cs[j] = x at hc0 hc1 hq hl
      obtain ⟨xa, xv, xd⟩ := x
      simp only at hc0 hc1 hq hl
      obtain ⟨ax, cx, rfl⟩ := hq.form
      rw [← hl] at hc1
      have hlm := Rd.max hq
      rw [← hl] at hlm
      unfold maxLen at hlm
      replace hc0 := H3.cell hc0
      replace hc1 := H3.cell hc1
      have i1 : (0 : Int) ≤ (j : Int) := by omega
      have i2 : (j : Int) < (n : Int) := by omega
      have H4 := H3.garbage (.cells #[.int .i64 xa, .slice ax l cx] tChg)
      clear hq hl hjs
      by_cases h100 : 100 < l
      · have t1 : decide ((100 : Int) < (l : Int)) = true := by simp; omega
        have t1n : decide (100 < l) = true := by simp; omega
        go_wp2_with fail
        go_ret
        exact ⟨false, rfl, (fun h => by cases h), H4⟩
      · have t1 : decide ((100 : Int) < (l : Int)) = false := by simp; omega
        have t1n : decide (100 < l) = false := by simp; omega
        go_wp2_with fail
        go_roundw
        case rel =>
          refine ⟨j + 1, by go_num, hlt, Hid.mk' (fun k h h2 => ?_), H4⟩
          rcases Nat.lt_or_ge k j with h3 | h3
          · exact hA.out k h h3
          · obtain rfl : k = j := by omega
            rw [HL.out]; omega
        case measure => simp [intOf]; omega
    · have d1 : decide ((j : Int) < (n : Int)) = false := by simp; omega
      obtain rfl : j = n := by omega
      have HD : Hid (∀ x ∈ cs, x.data.length ≤ 100) := Hid.mk' (fun x hx => by
        obtain ⟨i, hi, rfl⟩ := List.mem_iff_getElem.1 hx
        exact hA.out i hi (by rw [HN.out]; exact hi))
      clear hA
      by_cases h50 : j ≤ 20
      · have t1 : decide ((j : Int) ≤ 20) = true := by simp; omega
        have t1n : decide (j ≤ 20) = true := by simp; omega
        go_wp2_with fail
        go_ret
        exact ⟨true, rfl, (fun _ => ⟨h50, HD.out⟩), H3⟩
      · have t1 : decide ((j : Int) ≤ 20) = false := by simp; omega
        have t1n : decide (j ≤ 20) = false := by simp; omega
        go_wp2_with fail
        go_ret
        exact ⟨false, rfl, (fun h => by cases h), H3⟩
theorem doW_fit {n : Nat} {E : List En} (h : checkC E = 0) (hth : thereC n E = true) : ∀ c ∈ doW E, wFit n c.1 c.2 = true := by
  intro c hc
  have hth2 := hth
  rw [thereC, Bool.and_eq_true] at hth2
  have hn := of_decide_eq_true hth2.2
  obtain ⟨hl1, hl2⟩ := putC_bd h
  unfold doW at hc
  split at hc
  · cases hc
  · rw [wFit]
    refine decide_eq_true ?_
    simp only [List.mem_append, List.mem_singleton] at hc
    rcases hc with hc | rfl | hc | rfl | hc
    · obtain ⟨i, hi, rfl⟩ := bodW_mem hc
      refine ⟨by simp; omega, .inr ?_⟩
      simp only
      rw [List.getD_eq_getElem?_getD, List.getElem?_eq_getElem (by omega), Option.getD_some]
      exact putC_64 _ (List.getElem_mem _)
    · refine ⟨by simp; omega, .inr ?_⟩
      simp only
      rw [List.getD_eq_getElem?_getD, List.getElem?_eq_getElem (by omega), Option.getD_some]
      exact putC_64 _ (List.getElem_mem _)
    · have h1 := List.all_eq_true.1 (checkC_ok h).1 c hc
      have h2 := List.all_eq_true.1 (checkC_ok h).2.2.1 c hc
      have h3 := List.all_eq_true.1 hth2.1 c hc
      unfold placeC at h1
      unfold formC at h2
      simp only [Bool.or_eq_true, Bool.and_eq_true, decide_eq_true_eq] at h1 h2 h3
      exact ⟨⟨by omega, h3⟩, h2⟩
    · exact ⟨by simp; omega, .inl rfl⟩
    · obtain ⟨i, hi, rfl⟩ := clrW_mem hc
      exact ⟨by simp; omega, .inl rfl⟩
theorem runW_enough (l : List En) : ∀ S : List (List UInt8), (∀ c ∈ l, wFit S.length c.1 c.2 = true) → runW (S, (l.length : Int), false) l = (true, (apW S l, 0, false)) := by
  induction l with
  | nil => intro S _; rfl
  | cons c l ih =>
    intro S h
    have hf := h c List.mem_cons_self
    have hs : spendOk ((l.length + 1 : Nat) : Int) false = true := by simp [spendOk]; omega
    have hc : wrOk (S, ((l.length + 1 : Nat) : Int), false) c = true := by
      rw [wrOk, wOk, hf]; exact hs
    have hw : wrSt (S, ((l.length + 1 : Nat) : Int), false) c = (S.set c.1.toNat (pad64 c.2), (l.length : Int), false) := by
      unfold wrSt
      rw [show wS S ((l.length + 1 : Nat) : Int) false c.1 c.2 = S.set c.1.toNat (pad64 c.2) from wS_yes hc, wLeft, wDead, hf, if_pos rfl, if_pos rfl, spendLeft, hs, if_pos ⟨rfl, (by omega : (0 : Int) < ((l.length + 1 : Nat) : Int))⟩]
      rw [show ((l.length + 1 : Nat) : Int) - 1 = (l.length : Int) by omega]
      rfl
    rw [List.length_cons, runW, if_pos hc, hw, ih _ (fun c' hc' => by rw [List.length_set]; exact h c' (List.mem_cons_of_mem _ hc')), apW_cons]
theorem runW_dark {c : En} {l : List En} {S : List (List UInt8)} (h : wFit S.length c.1 c.2 = true) : runW (S, 0, false) (c :: l) = (false, (S, 0, true)) := by
  have hc : wrOk (S, 0, false) c = false := by rw [wrOk, wOk, h]; rfl
  have hw : wrSt (S, 0, false) c = (S, 0, true) := by
    unfold wrSt
    rw [show wS S 0 false c.1 c.2 = S from wS_no hc, wLeft, wDead, h]
    rfl
  rw [runW, if_neg (by rw [hc]; decide), hw]
theorem en36 : checkC [(36, [])] = 0 := by decide
theorem en36_th : thereC 40 [(36, [])] = true := by decide
theorem en36_len : (doW [(36, [])]).length = 5 := by
  have h : (putC [(36, [])]).length = 2 := by rw [putC_len, textC_len]; decide
  rw [doW, if_neg (by simp), h]
  simp [bodW, clrW]
set_option maxHeartbeats 8000000
theorem alive19 {w : World} {R : Snap} {L : Asrt} (H : Holds w R L) (hcy : L.celly) : Calls Try.prog 88 #[] w fun e w' => e = .returned (.bool true) ∧ Holds w' R L := by
  obtain ⟨E, hE⟩ : ∃ E : List En, E = [(36, [])] := ⟨_, rfl⟩
  obtain ⟨S0, hS0⟩ : ∃ S, S = zeros (secN 40) := ⟨_, rfl⟩
  have hl40 : S0.length = 40 := by rw [hS0, zeros, List.length_replicate]; rfl
  have h64 : ∀ s ∈ S0, s.length = 64 := by rw [hS0]; exact all_zeros
  have hz : S0[1]? = some Z64 := by rw [hS0]; rfl
  have hck : checkC E = 0 := by rw [hE]; exact en36
  have hth : thereC S0.length E = true := by rw [hE, hl40]; exact en36_th
  have hfit : ∀ c ∈ doW E, wFit S0.length c.1 c.2 = true := doW_fit hck hth
  obtain ⟨S1, hS1⟩ : ∃ S, S = apW S0 (doW E) := ⟨_, rfl⟩
  have hr1 : runW (S0, 5, false) (doW E) = (true, (S1, 0, false)) := by
    have := runW_enough (doW E) S0 hfit
    rwa [hE, en36_len, ← hE, ← hS1] at this
  have hl1 : S1.length = 40 := by rw [hS1, apW_len, hl40]
  have hd1 : doR (S0, 5, false) E = (0, (S1, 0, false)) := by
    rw [doR, if_pos hck, if_pos hth, hr1]; rfl
  have hth1 : thereC S1.length E = true := by rw [hl1, ← hl40]; exact hth
  have hd2 : doR (S1, 0, false) E = (15, (S1, 0, true)) := by
    rw [doR, if_pos hck, if_pos hth1]
    have hne : doW E ≠ [] := fun h => by
      have := congrArg List.length h
      rw [hE, en36_len] at this
      cases this
    obtain ⟨c, l, hcl⟩ := List.exists_cons_of_ne_nil hne
    have hf : wFit S1.length c.1 c.2 = true := by rw [hl1, ← hl40]; exact hfit c (by rw [hcl]; exact List.mem_cons_self)
    rw [hcl, runW_dark hf]; rfl
  have hinv := do_inv (st := (S0, 5, false)) (E := E) (by rw [hl40]; decide) h64 (show Bd (S0, 5, false) from (by decide : (-1 : Int) ≤ 5 ∧ (5 : Int) ≤ 9223372036854775807)) hz hck
  rw [hr1] at hinv
  have hz1 : S1[1]? = some Z64 := (hinv.2 rfl).1
  have h641 : ∀ s ∈ S1, s.length = 64 := hinv.1.2.1
  have hrec : ∀ F ok, GotC (jS S1) F ok → (runW (S1, -1, false) (againW S1 F)).1 = true ∧ cleanS (runW (S1, -1, false) (againW S1 F)).2.1 = true ∧ (∀ s ∈ (runW (S1, -1, false) (againW S1 F)).2.1, s.length ≤ 1000000) ∧ (runW (S1, -1, false) (againW S1 F)).2.1.length ≤ 1000 := by
    intro F ok hG
    have hF := got_clear hz1 hG
    subst hF
    have hfit2 : ∀ c ∈ againW S1 [], wFit S1.length c.1 c.2 = true := by
      rw [againW, ite_self, List.nil_append]
      intro c hc
      obtain ⟨_, h2, h3, h4⟩ := clrN_in c hc
      rw [wFit, h2]
      exact decide_eq_true ⟨⟨h4, h3⟩, .inl rfl⟩
    have hfu := runW_full _ S1 hfit2
    have h1 : (runW (S1, -1, false) (againW S1 [])).1 = true := by rw [hfu]
    obtain ⟨k1, k2, k3⟩ := runW_inv (st := (S1, -1, false)) (l := againW S1 []) (show Bd (S1, -1, false) from (by decide : (-1 : Int) ≤ -1 ∧ (-1 : Int) ≤ 9223372036854775807)) h641
    exact ⟨h1, again_clean (st := (S1, -1, false)) hG h1, fun s hs => by rw [k2 s hs]; decide, by rw [k3, hl1]; decide⟩
  have HE := Hid.mk' hE
  have HS0 := Hid.mk' hS0
  have HD1 := Hid.mk' hd1
  have HD2 := Hid.mk' hd2
  have HREC := Hid.mk' hrec
  have HL0 := Hid.mk' hl40
  have HL1 := Hid.mk' hl1
  have H61 := Hid.mk' h641
  clear hE hS0 hl40 h64 hz hck hth hfit hS1 hr1 hl1 hd1 hth1 hd2 hinv hz1 h641 hrec
  go_enter Try.func88, Try.ntmps88
  go_wp2_with fail
  refine (new_crc H).mono ?_
  rintro e w1 ⟨p, rfl, H1⟩
  obtain ⟨R1, le1, H2, hT⟩ := H1.freezeBlk
  clear H1 H
  go_wp2_with fail
  refine (disknew_spec (n := 40) H2).mono ?_
  rintro e w3 ⟨pd, rfl, H3⟩
  rw [← HS0.out] at H3
  clear H2
  go_wp2_with fail
  refine (dpower_spec (n := 5) H3).mono ?_
  rintro e w4 ⟨rfl, H4⟩
  replace H4 : Holds w4 R1 (star (dA pd (S0, 5, false)) L) := H4
  clear H3
  go_wp2_with fail
  obtain ⟨R5, le5, H5, hr5⟩ := ((H4.alloc #[.int .i64 36, .slice none 0 0] tChg).toRow 2 1 1 (Nat.le_refl _) (by decide) rfl).freezeRow
  have HC5 := Hid.mk' (cl1 _ _ _ hr5)
  have hsz : SzC [⟨36, .slice none 0 0, []⟩] := ⟨by simp, fun x hx => by obtain rfl := List.mem_singleton.1 hx; simp⟩
  have HSZ := Hid.mk' hsz
  have hT5 := le5.blk _ _ hT
  clear H4 hr5 hsz
  refine (jdo_spec H5 hcy hT5 (show Bd (S0, 5, false) from (by decide : (-1 : Int) ≤ 5 ∧ (5 : Int) ≤ 9223372036854775807)) (by rw [HL0.out]; decide) HC5.out HSZ.out).mono ?_
  rintro e w6 ⟨rfl, H6⟩
  rw [show conC [⟨36, .slice none 0 0, []⟩] = E from HE.out.symm, HD1.out] at H6 ⊢
  clear H5
  go_wp2_with fail
  obtain ⟨R7, le7, H7, hr7⟩ := ((H6.alloc #[.int .i64 36, .slice none 0 0] tChg).toRow 2 1 1 (Nat.le_refl _) (by decide) rfl).freezeRow
  have HC7 := Hid.mk' (cl1 _ _ _ hr7)
  have hT7 := le7.blk _ _ hT5
  clear H6 hr7
  refine (jdo_spec H7 hcy hT7 (show Bd (S1, 0, false) from (by decide : (-1 : Int) ≤ 0 ∧ (0 : Int) ≤ 9223372036854775807)) (by rw [HL1.out]; decide) HC7.out HSZ.out).mono ?_
  rintro e w8 ⟨rfl, H8⟩
  rw [show conC [⟨36, .slice none 0 0, []⟩] = E from HE.out.symm, HD2.out] at H8 ⊢
  clear H7
  go_wp2_with fail
  refine (dpower_spec (n := -1) H8).mono ?_
  rintro e w9 ⟨rfl, H9⟩
  replace H9 : Holds w9 R7 (star (dA pd (S1, -1, false)) L) := H9
  clear H8
  go_wp2_with fail
  refine (jrec_spec H9 hcy hT7 (show Bd (S1, -1, false) from (by decide : (-1 : Int) ≤ -1 ∧ (-1 : Int) ≤ 9223372036854775807)) (fun s hs => by rw [H61.out s hs]; decide) (by rw [HL1.out]; decide)).mono ?_
  rintro e w10 ⟨F, ok, hG, rfl, H10⟩
  obtain ⟨k1, k2, k3, k4⟩ := HREC.out F ok hG
  rw [show errOf (runW (S1, -1, false) (againW S1 F)).1 = 0 by rw [k1]; rfl]
  clear H9 hG k1
  obtain ⟨T, hT⟩ : ∃ T, T = (runW (S1, -1, false) (againW S1 F)).2 := ⟨_, rfl⟩
  replace H10 : Holds w10 R7 (star (dA pd T) L) := by rw [hT]; exact H10
  replace k2 : cleanS T.1 = true := by rw [hT]; exact k2
  replace k3 : ∀ s ∈ T.1, s.length ≤ 1000000 := by rw [hT]; exact k3
  replace k4 : T.1.length ≤ 1000 := by rw [hT]; exact k4
  have K2 := Hid.mk' k2
  have K3 := Hid.mk' k3
  have K4 := Hid.mk' k4
  clear hT k2 k3 k4
  go_wp2_with fail
  refine (jclean_spec H10 K3.out K4.out).mono ?_
  rintro e w11 ⟨rfl, H11⟩
  rw [K2.out]
  go_wp2_with fail
  go_ret
  exact ⟨rfl, (H11.drop).weaken (le1.trans (le5.trans le7))⟩
end Sh
/- sherdlaw19.some: two disks alike, whose journal is clear. -/
set_option linter.unusedVariables false
set_option linter.unusedSimpArgs false
namespace Sh
open Go Go.RowKit Go.Proofs
attribute [local go_sem ↓] Go.wp_at_zero Go.wp_at_succ
set_option maxHeartbeats 1000000
set_option maxRecDepth 100000

theorem some_wr {S : List (List UInt8)} {c : En} (h : outJ c) : ∃ S', wrSt (S, -1, false) c = (S', -1, false) ∧ S'.length = S.length ∧ cleanS S' = cleanS S ∧ ((∀ s ∈ S, s.length = 64) → ∀ s ∈ S', s.length = 64) := by
  refine ⟨wS S (-1) false c.1 c.2, ?_, ?_, ?_, ?_⟩
  · unfold wrSt
    simp only
    have h1 : wLeft S.length (-1) false c.1 c.2 = -1 := by rw [wLeft]; split <;> rfl
    have h2 : wDead S.length (-1) false c.1 c.2 = false := by rw [wDead]; split <;> rfl
    rw [h1, h2]
  · exact wrSt_len (S, -1, false) c
  · cases ho : wOk S.length (-1) false c.1 c.2 with
    | true =>
      rw [wS_yes ho]
      exact clean_out (S := S) (l := [c]) (fun d hd => by rw [List.mem_singleton.1 hd]; exact h)
    | false => rw [wS_no ho]
  · intro h64
    exact S64.wr (st := (S, -1, false)) h64 c
theorem zeros_clean (n : Nat) : cleanS (zeros n) = true := by
  rw [cleanS_iff]
  intro i _ h
  rw [List.getElem?_eq_getElem h]
  exact congrArg some (List.getElem_replicate ..)
set_option maxHeartbeats 8000000
theorem some19 {w : World} {R : Snap} {L : Asrt} {n : Int} {v : Value} {b : List UInt8} (H : Holds w R L) (hr : RdB R.cell? v b) (hb : 0 < b.length ∧ b.length ≤ 100) (hn : 0 ≤ n ∧ n ≤ 100) :
    Calls Try.prog 89 #[.int .i64 n, v] w fun e w' => ∃ (pd pm : Nat) (S : List (List UInt8)), e = .returned (.tuple #[.pointer (some ⟨pd, 0, none⟩), .pointer (some ⟨pm, 0, none⟩)]) ∧ S.length = secN n ∧ (∀ s ∈ S, s.length = 64) ∧ cleanS S = true ∧ Holds w' R (star (dA pd (S, -1, false)) (star (mA pm (S, -1, false)) L)) := by
  obtain ⟨ab, cb, rfl⟩ := hr.form
  obtain ⟨bl, hbl⟩ : ∃ m, m = b.length := ⟨_, rfl⟩
  have HR : Hid (RdB R.cell? (.slice ab bl cb) b) := Hid.mk' (by rw [hbl]; exact hr)
  have HBL := Hid.mk' hbl
  rw [← hbl] at hb ⊢
  obtain ⟨hb0, hb9⟩ := hb
  obtain ⟨hn0, hn9⟩ := hn
  obtain ⟨N, hN⟩ : ∃ N, N = secN n := ⟨_, rfl⟩
  have HN := Hid.mk' hN
  have hN9 : N ≤ 100 := by rw [hN]; unfold secN; omega
  rw [← hN]
  clear hr hbl hN
  have hbpos : (0 : Int) < (bl : Int) := by omega
  have hbne : ¬ (bl : Int) = 0 := by omega
  have d0 : decide ((0 : Int) < (bl : Int)) = true := decide_eq_true hbpos
  go_enter Try.func89, Try.ntmps89
  go_wp2_with fail
  refine (disknew_spec (n := n) H).mono ?_
  rintro e w1 ⟨pd, rfl, H1⟩
  clear H
  go_wp2_with fail
  refine (mnew_spec (n := n) H1).mono ?_
  rintro e w2 ⟨pm, rfl, H2⟩
  rw [← HN.out] at H2
  clear H1
  have H3 : Holds w2 R (star (dA pd (zeros N, -1, false)) (star (mA pm (zeros N, -1, false)) L)) := H2.swap
  clear H2
  go_wp2_with fail
  go_loopw [8] (fun i wx => ∃ (j : Nat) (S : List (List UInt8)), i = .int .i64 (j : Int) ∧ j ≤ N ∧ S.length = N ∧ Hid ((∀ s ∈ S, s.length = 64) ∧ cleanS S = true) ∧ Holds wx R (star (dA pd (S, -1, false)) (star (mA pm (S, -1, false)) L))) (fun i _ => N - (intOf i).toNat)
  case atStart => exact ⟨0, zeros N, rfl, Nat.zero_le _, by rw [zeros, List.length_replicate], Hid.mk' ⟨all_zeros, zeros_clean N⟩, H3⟩
  case round =>
    clear H3
    obtain ⟨j, S, rfl, hj, hSl, HS, H4⟩ := hrel
    have HSL := Hid.mk' hSl
    have hsz := size_spec H4
    rw [hSl] at hsz
    have HSZ := Hid.mk' hsz
    clear hsz hSl
    by_cases hlt : j < N ∧ (j : Int) < n
    · obtain ⟨hlt, hjn⟩ := hlt
      have d1 : decide ((j : Int) < (N : Int)) = true := by simp; omega
      have d2 : decide ((j : Int) < n) = true := decide_eq_true hjn
      go_wp2_with fail
      refine HSZ.out.mono ?_
      rintro e w5 ⟨rfl, rfl⟩
      by_cases hjo : j = 0 ∨ 34 ≤ j
      · have HOUT : Hid (∀ x : List UInt8, outJ ((j : Int), x)) := Hid.mk' (fun x => by unfold outJ; simp; omega)
        go_upto_region 5 with fail
        go_cut [36] from 15 to 63 (fun c wx => c = .bool true ∧ wx = wr)
        case first =>
          by_cases hj0 : j = 0
          · subst hj0
            go_wp2_with fail
            go_meet
            case rel => exact ⟨rfl, rfl⟩
          · have e1 : ((j : Int) == 0) = false := by rw [beq_eq_false_iff_ne]; omega
            have e2 : decide ((34 : Int) ≤ (j : Int)) = true := by simp; omega
            have e2n : decide (34 ≤ j) = true := by simp; omega
            clear hjo
            go_wp2_with fail
            go_meet
            case rel => exact ⟨rfl, rfl⟩
        obtain ⟨rfl, rfl⟩ := hcut
        go_wp2_with (with_reducible refine stop_make ?_)
        refine Hold.go (wpList_makeB (n := 64) rfl _ _ rfl rfl rfl H4 (by omega) ?_)
        intro v2 w6 H6
        obtain ⟨a2, c2, rfl⟩ := H6.rowRd.form
        clear H4
        simp only [rowB, List.length_replicate] at H6 ⊢
        go_wp2_with fail
        go_loopw [40] (fun i wx => ∃ (k : Nat) (s : List UInt8), i = .int .i64 (k : Int) ∧ k ≤ 64 ∧ Hid (s.length = 64) ∧ Holds wx R (star (row tU8 1 (.slice a2 64 c2) 64 (u8s s)) (star (dA pd (S, -1, false)) (star (mA pm (S, -1, false)) L)))) (fun i _ => 64 - (intOf i).toNat)
        case atStart => exact ⟨0, List.replicate 64 0, rfl, Nat.zero_le _, Hid.mk' (by simp), H6⟩
        case round =>
          clear H6
          obtain ⟨k, s, rfl, hk, HS6, H7⟩ := hrel
          by_cases hk6 : k < 64
          · have d3 : decide ((k : Int) < 64) = true := by simp; omega
            have d3n : decide (k < 64) = true := by simp; omega
            obtain ⟨b1, o1, rfl, hc⟩ := RdB.open (n := bl) (cap := cb) (l := b) (HR.out.world H7) (by rw [← HBL.out]; exact hb0)
            obtain ⟨t, ht⟩ : ∃ t, t = j + k := ⟨_, rfl⟩
            have hte : (j : Int) + (k : Int) = (t : Int) := by omega
            have ht9 : t ≤ 200 := by omega
            obtain ⟨r, hr⟩ : ∃ r, r = t % bl := ⟨_, rfl⟩
            have hrb : r < bl := by rw [hr]; exact Nat.mod_lt _ hb0
            have hre : (t : Int) % (bl : Int) = (r : Int) := by rw [hr]; exact (Int.natCast_emod _ _).symm
            have hrt : (t : Int).tmod (bl : Int) = (r : Int) := by rw [hr, ← Int.ofNat_tmod]
            have cr := hc r (by rw [← HBL.out]; exact hrb)
            generalize b[r]'(by rw [← HBL.out]; exact hrb) = x at cr
            have i1 : (0 : Int) ≤ (r : Int) := by omega
            have i2 : (r : Int) < (bl : Int) := by omega
            have i3 : (0 : Int) ≤ (k : Int) := by omega
            have i4 : (k : Int) < 64 := by omega
            obtain ⟨g2, cap, e1, hc2, hg2, hcl, hfz⟩ := H7.rowAt (by omega)
            simp only [Value.slice.injEq, true_and] at e1
            obtain ⟨rfl, rfl⟩ := e1
            have hlen2 : k < (u8s s).length := by
              have := H7.rowRd.len; omega
            have ct := hcl k _ (List.getElem?_eq_getElem hlen2)
            have ft := hfz k
            have HF := Hid.mk' (row_write H7 k (x.toNat : Int) hk6 (by have := u8_lt x; omega))
            generalize (u8s s)[k] = old at ct
            clear hc hcl hfz ht hr hlen2
            go_wp2_with fail
            go_roundw
            case rel => exact ⟨k + 1, s.set k (UInt8.ofNat (x.toNat : Int).toNat), by go_num, hk6, Hid.mk' (by rw [List.length_set]; exact HS6.out), HF.out⟩
            case measure => simp [intOf]; omega
          · have d3 : decide ((k : Int) < 64) = false := by simp; omega
            have d3n : decide (k < 64) = false := by simp; omega
            obtain ⟨R8, le8, H8, hr8⟩ := H7.freezeRow
            have HR8 : Hid (RdB R8.cell? (.slice a2 64 c2) s) := Hid.mk' (by
              show Rd R8.cell? 1 (.slice a2 64 c2) s.length (u8s s)
              rw [HS6.out]; exact hr8)
            obtain ⟨S', hw, hl', hc', h64'⟩ := some_wr (S := S) (HOUT.out s)
            have HW := Hid.mk' hw
            have HL' := Hid.mk' hl'
            have HC' := Hid.mk' hc'
            have H64' := Hid.mk' h64'
            clear H7 hr8 hw hl' hc' h64'
            go_wp2_with fail
            refine (dwrite_spec (i := (j : Int)) H8 HR8.out (show (-1 : Int) ≤ -1 ∧ (-1 : Int) ≤ 9223372036854775807 by decide)).mono ?_
            rintro e w9 ⟨rfl, H9⟩
            replace H9 : Holds w9 R8 (star (dA pd (wrSt (S, -1, false) ((j : Int), s))) (star (mA pm (S, -1, false)) L)) := H9
            rw [HW.out] at H9
            clear H8
            go_wp2_with fail
            refine (mwrite_spec (i := (j : Int)) H9.swap HS.out.1 (by rw [HSL.out]; omega) HR8.out (show (-1 : Int) ≤ -1 ∧ (-1 : Int) ≤ 9223372036854775807 by decide)).mono ?_
            rintro e w10 ⟨rfl, H10⟩
            replace H10 : Holds w10 R8 (star (mA pm (wrSt (S, -1, false) ((j : Int), s))) (star (dA pd (S', -1, false)) L)) := H10
            rw [HW.out] at H10
            clear H9
            go_wp2_with fail
            go_roundw
            case rel => exact ⟨j + 1, S', by go_num, hlt, by rw [HL'.out, HSL.out], Hid.mk' ⟨H64'.out HS.out.1, by rw [HC'.out]; exact HS.out.2⟩, H10.swap.weaken le8⟩
            case measure => simp [intOf]; omega
      · have e1 : ((j : Int) == 0) = false := by rw [beq_eq_false_iff_ne]; omega
        have e2 : decide ((34 : Int) ≤ (j : Int)) = false := by simp; omega
        have e2n : decide (34 ≤ j) = false := by simp; omega
        clear hjo
        go_wp2_with fail
        go_roundw
        case rel => exact ⟨j + 1, S, by go_num, hlt, HSL.out, HS, H4⟩
        case measure => simp [intOf]; omega
    · by_cases hjN : j < N
      · have d1 : decide ((j : Int) < (N : Int)) = true := by simp; omega
        have d2 : decide ((j : Int) < n) = false := decide_eq_false (by omega)
        clear hlt
        go_wp2_with fail
        refine HSZ.out.mono ?_
        rintro e w5 ⟨rfl, rfl⟩
        go_wp2_with fail
        go_ret2
        exact ⟨pd, pm, S, rfl, HSL.out, HS.out.1, HS.out.2, H4⟩
      · have d1 : decide ((j : Int) < (N : Int)) = false := by simp; omega
        clear hlt
        go_wp2_with fail
        refine HSZ.out.mono ?_
        rintro e w5 ⟨rfl, rfl⟩
        go_wp2_with fail
        go_ret2
        exact ⟨pd, pm, S, rfl, HSL.out, HS.out.1, HS.out.2, H4⟩
end Sh
/- How a pair of numbers ([2]int) reads as an argument. -/
set_option linter.unusedVariables false
set_option linter.unusedSimpArgs false
namespace Sh
open Go Go.RowKit Go.Proofs
structure A2 where
  a : Int
  b : Int
def A2.cells (x : A2) : List Value := [.int .i64 x.a, .int .i64 x.b]
theorem okWide_array {P : Program} {w : World} {r : Reach} {base : Nat} {t e : TypeId} {n : Nat} {v : Value} (ht : P.underlying t = some (.array n e)) (h : Value.okWide P w r base t v) : ∃ cs, v = .agg cs ∧ cs.size = P.cellsOf t := by
  simp only [Value.okWide, ht] at h
  obtain ⟨cs, h1, h2, _⟩ := h
  exact ⟨cs, h1, h2⟩
set_option maxRecDepth 100000 in
theorem read_a2 {H : Type} {enc : TypeId × Value → H} {w : World} {base : Nat} {spare : Nat → Bool} {held : Bool} {fuel : Nat} {cs : List Value} {x : DataW H × List MemPlace} (h : DataW.trod enc Try.prog w base spare held fuel 120 cs = some x) :
    ∃ m : A2, cs = m.cells ∧ (IntKind.i64.min ≤ m.a ∧ m.a ≤ IntKind.i64.max) ∧ (IntKind.i64.min ≤ m.b ∧ m.b ≤ IntKind.i64.max) := by
  obtain ⟨xs, m, _, rfl, hl, hn, hx⟩ := DataW.trod_array Try.underlying120 h
  have hl : cs.length = 2 := hl
  match cs, hl with
  | [c0, c1], _ =>
    have g0 := (hx 0 (by decide)).trans (List.getElem?_eq_getElem (by omega))
    have g1 := (hx 1 (by decide)).trans (List.getElem?_eq_getElem (by omega))
    obtain ⟨a0, e0, w0⟩ := read_int Try.underlying3 g0
    obtain ⟨a1, e1, w1⟩ := read_int Try.underlying3 g1
    obtain rfl : c0 = .int .i64 a0 := List.head_eq_of_cons_eq (show [c0] = [.int .i64 a0] from e0)
    obtain rfl : c1 = .int .i64 a1 := List.head_eq_of_cons_eq (show [c1] = [.int .i64 a1] from e1)
    exact ⟨⟨a0, a1⟩, rfl, w0, w1⟩
end Sh
/- JournalDoes: the walk. -/
set_option linter.unusedVariables false
set_option linter.unusedSimpArgs false
namespace Sh
open Go Go.RowKit Go.Proofs
attribute [local go_sem ↓] Go.wp_at_zero Go.wp_at_succ
set_option maxHeartbeats 1000000
set_option maxRecDepth 100000

theorem doR_chk (st : DSt) (E : List En) : doR st E = if chkJ st.1.length E = 0 then (errOf (runW st (doW E)).1, (runW st (doW E)).2) else (chkJ st.1.length E, st) := by
  unfold doR chkJ
  by_cases h : checkC E = 0
  · rw [if_pos h, if_pos h]
    by_cases h2 : thereC st.1.length E = true
    · rw [if_pos h2, if_pos h2, if_pos rfl]
    · rw [if_neg h2, if_neg h2, if_neg (by decide)]
  · rw [if_neg h, if_neg h, if_neg h]
theorem doR_inv {st : DSt} (E : List En) (hb : Bd st) (h64 : S64 st) : Bd (doR st E).2 ∧ S64 (doR st E).2 ∧ (doR st E).2.1.length = st.1.length := by
  rw [doR_chk]
  split
  · exact runW_inv hb h64
  · exact ⟨hb, h64, rfl⟩
theorem chkJ_ok {n : Nat} {E : List En} (h : chkJ n E = 0) : checkC E = 0 ∧ thereC n E = true := by
  unfold chkJ at h
  by_cases h1 : checkC E = 0
  · rw [if_pos h1] at h
    by_cases h2 : thereC n E = true
    · exact ⟨h1, h2⟩
    · rw [if_neg h2] at h; cases h
  · rw [if_neg h1] at h; exact absurd h h1
theorem celly_m (p : Nat) (st : DSt) : (mA p st).celly := celly_ex fun _ => celly_star (celly_blk _ _ _) (celly_row _ _ _ _ _)
theorem secN_bd {n : Int} (h : 0 ≤ n ∧ n < 60) : 1 ≤ secN n ∧ secN n ≤ 60 := by unfold secN; omega
set_option maxHeartbeats 8000000
theorem journalDoes_walk (W : World) {n : Int} {v : Value} {cs : List Ch} {p0 p1 : Int} (hn : IntKind.u8.min ≤ n ∧ n ≤ IntKind.u8.max) (hb0 : Rd W.cell? 2 v cs.length (cs.flatMap Ch.cells)) (gd0 : ∀ x ∈ cs, RdB W.cell? x.v x.data) (h0 : IntKind.i64.min ≤ p0 ∧ p0 ≤ IntKind.i64.max) (h1 : IntKind.i64.min ≤ p1 ∧ p1 ≤ IntKind.i64.max) :
    Calls Try.prog 19 #[.int .u8 n, v, .agg #[.int .i64 p0, .int .i64 p1]] W fun e w' => e = .returned (.bool true) ∧ Below W.heap.size W w' := by
  have hr0 : RdC (Snap.of W).cell? v cs := ⟨hb0, gd0⟩
  clear hb0 gd0
  obtain ⟨a, c, rfl⟩ := hr0.form
  obtain ⟨nn, hnn⟩ : ∃ m : Nat, n = (m : Int) := ⟨n.toNat, by have : (0 : Int) ≤ n := hn.1; omega⟩
  subst hnn
  have hn255 : nn ≤ 255 := by have h : (nn : Int) ≤ 255 := hn.2; omega
  obtain ⟨k, hk⟩ : ∃ k, k = nn % 60 := ⟨_, rfl⟩
  have hk60 : k < 60 := by omega
  have hke : (nn : Int) % 60 = (k : Int) := by omega
  have hkt : (nn : Int).tmod 60 = (k : Int) := by rw [Int.tmod_eq_emod_of_nonneg (by omega)]; omega
  obtain ⟨K, hK⟩ : ∃ K, K = cs.length := ⟨_, rfl⟩
  have HKN := Hid.mk' hK
  obtain ⟨R1, le1, H1, hb1⟩ := (Holds.start W).allocR (.cells #[.int .i64 p0, .int .i64 p1] 120 (0, 0))
  have HR : Hid (RdC R1.cell? (.slice a K c) cs) := Hid.mk' (by rw [hK]; exact hr0.le le1)
  rw [← hK]
  have leA := le1
  have HP0 : Hid (∀ S : List (List UInt8), Bd (S, max p0 (-1), false)) := Hid.mk' (fun S => by
    have h2 : p0 ≤ 9223372036854775807 := h0.2
    show -1 ≤ max p0 (-1) ∧ max p0 (-1) ≤ 9223372036854775807
    omega)
  have HP1 : Hid (∀ S : List (List UInt8), Bd (S, max p1 (-1), false)) := Hid.mk' (fun S => by
    have h2 : p1 ≤ 9223372036854775807 := h1.2
    show -1 ≤ max p1 (-1) ∧ max p1 (-1) ≤ 9223372036854775807
    omega)
  obtain ⟨q0, hq0⟩ : ∃ q, q = max p0 (-1) := ⟨_, rfl⟩
  obtain ⟨q1, hq1⟩ : ∃ q, q = max p1 (-1) := ⟨_, rfl⟩
  have HQ0 := Hid.mk' hq0
  have HQ1 := Hid.mk' hq1
  rw [← hq0] at HP0
  rw [← hq1] at HP1
  clear hr0 hK hk hn h0 h1 hq0 hq1
  go_enter Try.func19, Try.ntmps19
  go_upto_region 1 with fail
  generalize (World.alloc ..) = w1 at H1 ⊢
  generalize hg : W.heap.size = g at hb1 ⊢
  go_wp2_with fail
  refine (few19_spec H1 HR.out).mono ?_
  rintro e w2 ⟨b, rfl, hb, H2⟩
  have HB := Hid.mk' hb
  clear hb H1
  cases b with
  | false =>
    go_wp2_with fail
    refine (alive19 H2 celly_emp).mono ?_
    rintro e w99 ⟨rfl, H99⟩
    go_wp2_with fail
    go_ret
    exact ⟨rfl, hg ▸ H99.toBelow (leA)⟩
  | true =>
  have HSZ : Hid (SzC cs) := Hid.mk' ⟨by have := (HB.out rfl).1; omega, fun x hx => by have := (HB.out rfl).2 x hx; omega⟩
  clear HB
  go_wp2_with fail
  refine (new_crc H2).mono ?_
  rintro e w3 ⟨pt, rfl, H3⟩
  obtain ⟨R3, le3, H4, hT⟩ := H3.freezeBlk
  clear H2 H3
  have H5 := blkB (H4.alloc #[.int .u8 3, .int .u8 1, .int .u8 4] tU8) [3, 1, 4] (n := 3) rfl rfl (by decide)
  obtain ⟨R5, le5, H6, hr6⟩ := H5.freezeRow
  have hr6' : RdB R5.cell? (.slice (some ⟨w3.heap.size, 0, none⟩) 3 3) [3, 1, 4] := hr6
  have HR6 := Hid.mk' hr6'
  clear H4 H5 hr6 hr6'
  go_wp2_with fail
  refine (some19 (n := (k : Int)) H6 HR6.out (by decide) (by omega)).mono ?_
  rintro e w7 ⟨pd, pm, S0, rfl, hS0, h640, _, H7⟩
  have hb := secN_bd (n := (k : Int)) (by omega)
  rw [← hS0] at hb
  obtain ⟨N, hN⟩ : ∃ N, N = S0.length := ⟨_, rfl⟩
  rw [← hN] at hb
  obtain ⟨hN1, hN9⟩ := hb
  have hinv0 : Bd (S0, q0, false) ∧ S64 (S0, q0, false) := ⟨HP0.out S0, h640⟩
  obtain ⟨i1, i2, i3⟩ := doR_inv (conC cs) hinv0.1 hinv0.2
  have hck := doR_chk (S0, q0, false) (conC cs)
  simp only at i3 hck
  rw [← hN] at i3 hck
  have HI0 := Hid.mk' hinv0
  have HNN := Hid.mk' hN
  obtain ⟨X, hX⟩ : ∃ X, X = doR (S0, q0, false) (conC cs) := ⟨_, rfl⟩
  rw [← hX] at i1 i2 i3 hck
  have HX := Hid.mk' hX
  have HIX := Hid.mk' (And.intro i1 (And.intro i2 i3))
  have HCK := Hid.mk' hck
  replace hb1 := (le3.trans le5).blk _ _ hb1
  replace hT := le5.blk _ _ hT
  replace HR := Hid.mk' (HR.out.le (le3.trans le5))
  replace leA := leA.trans (le3.trans le5)
  clear H6 hS0 h640 hN hinv0 i1 i2 i3 hck hX HR6
  obtain ⟨l1, n1, c1⟩ := Holds.frzFacts (H7) hb1
  go_wp2_with fail
  refine (dpower_spec (n := p0) H7).mono ?_
  rintro e w8 ⟨rfl, H8⟩
  rw [← HQ0.out] at H8
  clear H7 l1 n1 c1
  obtain ⟨l1, n1, c1⟩ := Holds.frzFacts (H8) hb1
  go_wp2_with fail
  refine (mpower_spec (n := p0) H8.swap).mono ?_
  rintro e w9 ⟨rfl, H9⟩
  rw [← HQ0.out] at H9
  replace H9 : Holds w9 R5 (star (dA pd (S0, q0, false)) (star (mA pm (S0, q0, false)) emp)) := H9.swap
  clear H8 l1 n1 c1
  go_wp2_with fail
  refine (jdo_spec H9 (celly_star (celly_m _ _) celly_emp) hT HI0.out.1 (by rw [← HNN.out]; omega) HR.out HSZ.out).mono ?_
  rintro e w10 ⟨rfl, H10⟩
  rw [← HX.out] at H10 ⊢
  clear H9
  go_wp2_with fail
  refine (size_spec H10).mono ?_
  rintro e w11 ⟨rfl, rfl⟩
  rw [HIX.out.2.2]
  go_wp2_with fail
  refine (rjcheck_spec (N := N) H10 HR.out HSZ.out).mono ?_
  rintro e w12 ⟨rfl, H12⟩
  obtain ⟨kc, hkc⟩ : ∃ kc, chkJ N (conC cs) = kc := ⟨_, rfl⟩
  rw [hkc] at HCK ⊢
  have HKC := Hid.mk' hkc
  clear hkc H10
  obtain ⟨z, hz⟩ : ∃ z, z = X.1 := ⟨_, rfl⟩
  obtain ⟨st2, hst2⟩ : ∃ s, s = X.2 := ⟨_, rfl⟩
  have HZ := Hid.mk' hz
  have HST2 := Hid.mk' hst2
  rw [← hst2] at H12 HIX
  rw [← hz]
  clear hz hst2
  go_upto_region 9 with fail
  go_cut [42] (fun x wx => x = .bool (kc == 0) ∧ wx = w12)
  case first =>
    go_wp2_with fail
    go_meet
    case rel => exact ⟨rfl, rfl⟩
  obtain ⟨rfl, rfl⟩ := hcut
  rename_i K9 hK9
  refine hK9 _ _ ?_
  clear hK9 K9
  go_cut [11] (fun x wx => ∃ R', R5.le R' ∧ x = .int .i64 z ∧ Holds wx R' (star (dA pd st2) (star (mA pm st2) emp)))
  case first =>
    by_cases hk0 : kc = 0
    · subst hk0
      have HXX : Hid (z = errOf (runW (S0, q0, false) (doW (conC cs))).1 ∧ st2 = (runW (S0, q0, false) (doW (conC cs))).2) := Hid.mk' (by
        have h := HCK.out
        rw [if_pos rfl] at h
        rw [HZ.out, HST2.out, h]
        exact ⟨rfl, rfl⟩)
      go_wp2_with fail
      refine (rjwrites_spec H12 HR.out HSZ.out (chkJ_ok HKC.out).1).mono ?_
      rintro e w13 ⟨R13, o13, ds, rfl, le13, hrd, hcd, hdl, H13⟩
      obtain ⟨ad, cd, rfl⟩ := hrd.form
      have HRD := Hid.mk' hrd
      have HCD := Hid.mk' hcd
      have HDL := Hid.mk' hdl
      clear H12 hrd hcd hdl
      go_wp2_with fail
      refine (rjwrite_spec (st := (S0, q0, false)) H13.swap HI0.out.1 HI0.out.2 (by rw [← HNN.out]; omega) HRD.out (by have := HDL.out; omega)).mono ?_
      rintro e w14 ⟨rfl, H14⟩
      rw [HCD.out] at H14 ⊢
      rw [← HXX.out.1]
      rw [← HXX.out.2] at H14
      clear H13
      go_wp2_with fail
      go_meet
      case rel => exact ⟨R13, le13, rfl, H14.swap⟩
    · have HXX : Hid (z = kc ∧ st2 = (S0, q0, false)) := Hid.mk' (by
        have h := HCK.out
        rw [if_neg hk0] at h
        rw [HZ.out, HST2.out, h]
        exact ⟨rfl, rfl⟩)
      have t0 : (kc == 0) = false := by simpa using hk0
      clear hk0
      go_wp2_with fail
      go_meet
      case rel => exact ⟨R5, Snap.le.refl _, by rw [HXX.out.1], by rw [HXX.out.2] at H12 ⊢; exact H12⟩
  clear H12
  obtain ⟨R6, le6, rfl, H12⟩ := hcut
  replace hb1 := le6.blk _ _ hb1
  replace hT := le6.blk _ _ hT
  replace leA := leA.trans le6
  obtain ⟨⟨hbd, h64, hlen⟩, HIX⟩ : (Bd st2 ∧ S64 st2 ∧ st2.1.length = N) ∧ True := ⟨HIX.out, trivial⟩
  have H64 := Hid.mk' h64
  have HLEN := Hid.mk' hlen
  have HBD := Hid.mk' hbd
  clear HIX HX HCK HKC HZ HST2 HI0 HNN h64 hbd hlen HR HSZ le3 le5 le6
  have dz : (z != z) = false := by simp
  obtain ⟨am, cm, H13⟩ := m_open H12.swap
  have hfl := flatten_len H64.out
  obtain ⟨F, hF⟩ : ∃ F, F = st2.1.flatten := ⟨_, rfl⟩
  have HF := Hid.mk' hF
  rw [← hF] at H13 hfl
  rw [HLEN.out] at hfl
  have hF9 : F.length ≤ 1000000 := by omega
  have hF0 : ((F.length : Int) == 0) = false := by rw [beq_eq_false_iff_ne]; omega
  have HFL := Hid.mk' hfl
  clear hF hfl H12
  obtain ⟨l6, n6, c6, z6⟩ := Holds.facts (H13)
  go_upto_region 11 with fail
  go_cut [67] (fun x wx => x = .bool false ∧ Holds wx R6 (star (dA pd st2) (star (mA pm st2) emp)))
  case first =>
    go_region_held3 (fun w' => (∀ o, w'.cell? ⟨pm, o, none⟩ = #[.slice am F.length cm, .int .i64 st2.2.1, .bool st2.2.2][o]?)) (first | (exact (H7.drewN _).pick3.blkCell) | (exact H7.pick3.blkCell) | ((repeat' (first | assumption | (with_reducible refine And.intro ?_ ?_) | (with_reducible refine keep_drew ?_) | (with_reducible refine keep_drewN ?_) | (with_reducible refine keep_alloc ?_ (by first | assumption | (simp only [World.size_alloc, World.size_drew, World.size_setCell]; omega))) | (with_reducible refine keep_set ?_ (by first | assumption | omega))))))
      (first | (go_at_call 97; refine (dimage_spec H13.drew.pick3 H64.out (by rw [HLEN.out]; omega)).mono ?_; rintro e w7 ⟨v7, rfl, H7⟩; rw [← HF.out] at H7) | (go_at_call 27; refine (same_self H7.rowRd H7.pick4.rowRd hF9).mono ?_; rintro e w8 ⟨rfl, q8, rfl⟩))
    all_goals
      go_wp2_with fail
      go_meet
      case rel =>
        refine ⟨rfl, ?_⟩
        have h := (H7.drewN q8).drop
        rw [HF.out] at h
        exact (m_shut h.swap.swap2).swap
  obtain ⟨rfl, H14⟩ := hcut
  rename_i K9 hK9
  refine hK9 _ _ ?_
  clear hK9 K9 H13 l6 n6 c6 z6 dz hF0 hF9
  obtain ⟨l1, n1, c1⟩ := Holds.frzFacts (H14) hb1
  go_wp2_with fail
  refine (dpower_spec (n := p1) H14).mono ?_
  rintro e w15 ⟨rfl, H15⟩
  rw [← HQ1.out] at H15
  clear H14 l1 n1 c1
  obtain ⟨l1, n1, c1⟩ := Holds.frzFacts (H15) hb1
  go_wp2_with fail
  refine (mpower_spec (n := p1) H15.swap).mono ?_
  rintro e w16 ⟨rfl, H16⟩
  rw [← HQ1.out] at H16
  obtain ⟨st3, hst3⟩ : ∃ s : DSt, s = (st2.1, q1, false) := ⟨_, rfl⟩
  replace H16 : Holds w16 R6 (star (dA pd st3) (star (mA pm st3) emp)) := by rw [hst3]; exact H16.swap
  have hb3 : Bd st3 := by rw [hst3]; exact HP1.out _
  have h63 : S64 st3 := by rw [hst3]; exact H64.out
  have hl3 : st3.1.length = N := by rw [hst3]; exact HLEN.out
  have HB3 := Hid.mk' hb3
  have H63 := Hid.mk' h63
  have HL3 := Hid.mk' hl3
  clear hst3 hb3 h63 hl3 H15 l1 n1 c1 HF HFL
  go_wp2_with fail
  refine (jrec_spec H16 (celly_star (celly_m _ _) celly_emp) hT HB3.out (fun s hs => by rw [H63.out s hs]; decide) (by rw [HL3.out]; omega)).mono ?_
  rintro e w17 ⟨E1, ok1, hG1, rfl, H17⟩
  have HG1 := Hid.mk' hG1
  obtain ⟨Y, hY⟩ : ∃ Y, Y = runW st3 (againW st3.1 E1) := ⟨_, rfl⟩
  rw [← hY] at H17 ⊢
  have HY := Hid.mk' hY
  clear hG1 hY H16
  go_wp2_with fail
  refine (rjagain_spec H17.swap H63.out (by rw [HL3.out]; omega)).mono ?_
  rintro e w18 ⟨R18, o18, ds, E2, ok2, rfl, hG2, le18, hrd, hcd, hdl, H18⟩
  obtain ⟨rfl, _⟩ := GotC.one hG2 HG1.out
  obtain ⟨ad, cd, rfl⟩ := hrd.form
  have HRD := Hid.mk' hrd
  have HCD := Hid.mk' hcd
  have HDL := Hid.mk' hdl
  clear hG2 hrd hcd hdl H17
  go_wp2_with fail
  refine (rjwrite_spec H18 HB3.out H63.out (by rw [HL3.out]; omega) HRD.out (by have := HDL.out; omega)).mono ?_
  rintro e w19 ⟨rfl, H19⟩
  rw [HCD.out, ← HY.out] at H19 ⊢
  replace leA := leA.trans le18
  have hinv := runW_inv (l := againW st3.1 E2) HB3.out H63.out
  rw [← HY.out, HL3.out] at hinv
  have HIV := Hid.mk' hinv
  have hcl : Y.1 = true → cleanS Y.2.1 = true := by
    intro h
    rw [HY.out] at h ⊢
    exact again_clean HG1.out h
  have HCL := Hid.mk' hcl
  obtain ⟨ok, T⟩ := Y
  simp only at H19 HIV HCL
  obtain ⟨am3, cm3, H20⟩ := m_open H19
  have hfl := flatten_len HIV.out.2.1
  rw [HIV.out.2.2] at hfl
  obtain ⟨F3, hF⟩ : ∃ F, F = T.1.flatten := ⟨_, rfl⟩
  have HF := Hid.mk' hF
  rw [← hF] at H20 hfl
  have hF9 : F3.length ≤ 1000000 := by omega
  have HC1 : Hid (star (dA pd T) (star (blk pm #[.slice am3 F3.length cm3, .int .i64 T.2.1, .bool T.2.2] 134) (star (rowB (.slice am3 F3.length cm3) F3) emp))).celly := Hid.mk' (celly_star (celly_disk _ _ _ _) (celly_star (celly_blk _ _ _) (celly_star (celly_row _ _ _ _ _) celly_emp)))
  obtain ⟨l6, n6, c6, z6⟩ := Holds.facts (H20)
  clear hinv hcl hF hfl H18 H19 HG1 HY HRD HCD HDL
  cases ok with
  | true =>
    have HK1 : Hid (cleanS T.1 = true) := Hid.mk' (HCL.out rfl)
    simp only [errOf, if_true]
    go_upto_region 17 with fail
    go_region_held3 (fun w' => (∀ o, w'.cell? ⟨pm, o, none⟩ = #[.slice am3 F3.length cm3, .int .i64 T.2.1, .bool T.2.2][o]?)) (first | (exact H9.swap.blkCell) | (exact H8.swap.blkCell) | (exact (H7.drewN _).pick3.blkCell) | (exact H7.pick3.blkCell) | ((repeat' (first | assumption | (with_reducible refine And.intro ?_ ?_) | (with_reducible refine keep_drew ?_) | (with_reducible refine keep_drewN ?_) | (with_reducible refine keep_alloc ?_ (by first | assumption | (simp only [World.size_alloc, World.size_drew, World.size_setCell]; omega))) | (with_reducible refine keep_set ?_ (by first | assumption | omega))))))
      (first | (go_at_call 97; refine (dimage_spec H20.drew.pick3 HIV.out.2.1 (by rw [HIV.out.2.2]; omega)).mono ?_; rintro e w7 ⟨v7, rfl, H7⟩; rw [← HF.out] at H7) | (go_at_call 27; refine (same_self H7.rowRd H7.pick4.rowRd hF9).mono ?_; rintro e w8 ⟨rfl, q8, rfl⟩) | (go_at_call 100; refine (jclean_spec (H7.drewN q8).drop (fun s hs => by rw [HIV.out.2.1 s hs]; decide) (by rw [HIV.out.2.2]; omega)).mono ?_; rintro e w10 ⟨rfl, H8⟩; rw [HK1.out]) | (go_at_call 88; refine (alive19 H8 HC1.out).mono ?_; rintro e w9 ⟨rfl, H9⟩))
    all_goals
      go_wp2_with fail
      go_ret
      exact ⟨rfl, hg ▸ H9.toBelow leA⟩
  | false =>
    simp only [errOf, Bool.false_eq_true, if_false]
    go_upto_region 17 with fail
    first | (go_region_with (first | (go_at_call 97; refine (dimage_spec H20.drew.pick3 HIV.out.2.1 (by rw [HIV.out.2.2]; omega)).mono ?_; rintro e w7 ⟨v7, rfl, H7⟩; rw [← HF.out] at H7; obtain ⟨l7, n7, c7, z7⟩ := Holds.facts H7.pick3) | (go_at_call 27; refine (same_self H7.rowRd H7.pick4.rowRd hF9).mono ?_; rintro e w8 ⟨rfl, q8, rfl⟩) | (go_at_call 88; refine (alive19 (H7.drewN q8).drop HC1.out).mono ?_; rintro e w9 ⟨rfl, H9⟩))) | fail
    all_goals
      go_wp2_with fail
      go_ret
      exact ⟨rfl, hg ▸ H9.toBelow leA⟩
end Sh
/- How changes read as an argument. -/
set_option linter.unusedVariables false
set_option linter.unusedSimpArgs false
namespace Sh
open Go Go.RowKit Go.Proofs
set_option maxRecDepth 100000 in
theorem read_ch {H : Type} {enc : TypeId × Value → H} {w : World} {base : Nat} {spare : Nat → Bool} {held : Bool} {fuel : Nat} {cs : List Value} {x : DataW H × List MemPlace} (h : DataW.trod enc Try.prog w base spare held fuel 169 cs = some x) :
    ∃ c : Ch, cs = c.cells ∧ RdB w.cell? c.v c.data := by
  obtain ⟨hl, n, hf⟩ := read_fields Try.underlying169 h
  have hl : cs.length = 2 := hl
  match cs, hl with
  | [c0, c1], _ =>
    obtain ⟨y0, h0⟩ := hf 0 _ rfl
    obtain ⟨y1, h1⟩ := hf 1 _ rfl
    obtain ⟨a0, e0, _⟩ := read_int Try.underlying3 h0
    obtain ⟨v1, a1, e1, g1⟩ := read_bytes Try.underlying22 Try.underlying5 (by kernel_rfl) h1
    obtain rfl : c0 = .int .i64 a0 := List.head_eq_of_cons_eq (show [c0] = [.int .i64 a0] from e0)
    obtain rfl : c1 = v1 := List.head_eq_of_cons_eq (show [c1] = [v1] from e1)
    exact ⟨⟨a0, c1, a1⟩, rfl, g1⟩
end Sh
