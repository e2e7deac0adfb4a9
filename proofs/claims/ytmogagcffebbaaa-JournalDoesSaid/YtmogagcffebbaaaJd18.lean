/- JrnDo EntRChk JrnRef: joined texts, each with its own sentence below. -/
import Derived.Test.YtmogagcffebbaaaJd17
import Derived.Test.YtmogagcffebbaaaJd9
import Derived.StillTailTactics
/- journal.Do. -/
set_option linter.unusedVariables false
set_option linter.unusedSimpArgs false
namespace Sh
open Go Go.RowKit Go.Proofs
attribute [local go_sem ↓] Go.wp_at_zero Go.wp_at_succ
set_option maxHeartbeats 1000000
set_option maxRecDepth 100000

def bodW (s : List (List UInt8)) (j : Nat) : List En := (List.range j).map fun i => (((2 + i : Nat) : Int), s.getD (1 + i) [])
def clrW (j : Nat) : List En := (List.range j).map fun i => (((2 + i : Nat) : Int), [])
/-- What Do writes. -/
def doW (E : List En) : List En := if E = [] then [] else bodW (putC E) ((putC E).length - 1) ++ ([((1 : Int), (putC E).getD 0 [])] ++ (E ++ ([((1 : Int), [])] ++ clrW ((putC E).length - 1))))
def doR (st : DSt) (E : List En) : Int × DSt :=
  if checkC E = 0 then (if thereC st.1.length E = true then (errOf (runW st (doW E)).1, (runW st (doW E)).2) else (2, st)) else (checkC E, st)
theorem bodW_succ (s : List (List UInt8)) (j : Nat) : bodW s (j + 1) = bodW s j ++ [(((2 + j : Nat) : Int), s.getD (1 + j) [])] := by rw [bodW, List.range_succ, List.map_append]; rfl
theorem clrW_succ (j : Nat) : clrW (j + 1) = clrW j ++ [(((2 + j : Nat) : Int), [])] := by rw [clrW, List.range_succ, List.map_append]; rfl
theorem conC_snoc (cs : List Ch) (x : Ch) : conC (cs ++ [x]) = conC cs ++ [(x.at_, x.data)] := by simp [conC]
theorem rdC_one {R : Snap} {g : Nat} {a : Int} {v : Value} {d : List UInt8} (hr : Rd R.cell? 2 (.slice (some ⟨g, 0, none⟩) 1 1) 1 [.int .i64 a, v]) (hd : RdB R.cell? v d) : RdC R.cell? (.slice (some ⟨g, 0, none⟩) 1 1) [⟨a, v, d⟩] := ⟨hr, fun x hx => by
  obtain rfl := List.mem_singleton.1 hx
  exact hd⟩
set_option maxHeartbeats 8000000
theorem jdo_spec {w : World} {R : Snap} {L : Asrt} {p pt : Nat} {st : DSt} {v : Value} {cs : List Ch} (H : Holds w R (star (dA p st) L)) (hcy : L.celly) (hT : R.blk pt = some (.cells (rowC 256) tabT (0, 0))) (hb : Bd st) (hl : st.1.length ≤ 1000) (hr : RdC R.cell? v cs) (hz : SzC cs) :
    Calls Try.prog 92 #[.pointer (some ⟨pt, 0, none⟩), .pointer (some ⟨p, 0, none⟩), v] w fun e w' => e = .returned (.int .i64 (doR st (conC cs)).1) ∧ Holds w' R (star (dA p (doR st (conC cs)).2) L) := by
  obtain ⟨X, hX⟩ : ∃ X, X = doR st (conC cs) := ⟨_, rfl⟩
  have HX := Hid.mk' hX
  rw [← hX]
  obtain ⟨a, c, rfl⟩ := hr.form
  obtain ⟨n, hn⟩ : ∃ n, n = cs.length := ⟨_, rfl⟩
  have HB := Hid.mk' hb
  have HZ := Hid.mk' hz
  have HN := Hid.mk' hn
  have HR : Hid (RdC R.cell? (.slice a n c) cs) := Hid.mk' (by rw [hn]; exact hr)
  have hn9 : n ≤ 1000 := by rw [hn]; exact hz.1
  rw [← hn]
  obtain ⟨E, hE⟩ : ∃ E, E = conC cs := ⟨_, rfl⟩
  have HE := Hid.mk' hE
  rw [← hE] at HX
  obtain ⟨kc, hkc⟩ : ∃ kc, checkC E = kc := ⟨_, rfl⟩
  have HKC := Hid.mk' hkc
  clear hX hr hz hn hb hE hkc
  by_cases hk0 : ¬ kc = 0
  · have HXX : Hid (X = (kc, st)) := Hid.mk' (by rw [HX.out, doR, if_neg (by rw [HKC.out]; exact hk0), HKC.out])
    have t1 : (kc != 0) = true := by simpa using hk0
    have HK0 := Hid.mk' hk0
    clear hk0
    go_enter Try.func92, Try.ntmps92
    go_wp2_with fail
    refine (entPut_bad H HR.out HZ.out (by rw [← HE.out, HKC.out]; exact HK0.out)).mono ?_
    rintro e w2 ⟨rfl, H2⟩
    rw [← HE.out, HKC.out]
    go_wp2_with fail
    go_ret
    rw [HXX.out]
    exact ⟨rfl, H2⟩
  obtain rfl : kc = 0 := by omega
  clear hk0
  go_enter Try.func92, Try.ntmps92
  go_wp2_with fail
  refine (entPut_ok H (celly_star (celly_disk _ _ _ _) hcy) hT HR.out HZ.out (by rw [← HE.out]; exact HKC.out)).mono ?_
  rintro e w2 ⟨o2, q, rfl, hq, H2⟩
  obtain ⟨R3, le3, H3, hqq⟩ := freezeBB H2
  obtain ⟨aq, cq, rfl⟩ := hqq.form
  obtain ⟨G, hG⟩ : ∃ G, G = q.length := ⟨_, rfl⟩
  obtain ⟨s, hs⟩ : ∃ s, s = putC E := ⟨_, rfl⟩
  replace hq : q.map Prod.snd = s := by rw [hs, HE.out]; exact hq
  have hsl : s.length = G := by rw [← hq, List.length_map, hG]
  have hG9 : 1 ≤ G ∧ G ≤ 40 := by
    have h := putC_len E
    have h1 := (checkC_ok HKC.out).2.2.2
    rw [← hs, hsl, textC_len] at h
    unfold partsN at h; omega
  obtain ⟨hG1, hG2⟩ := hG9
  have HGG := Hid.mk' hG
  have HQ := Hid.mk' hq
  have HSS := Hid.mk' hs
  have HSL := Hid.mk' hsl
  have HQQ := Hid.mk' hqq
  have HR3 := Hid.mk' (HR.out.le le3)
  rw [← hG]
  clear H H2 hq hs hsl hqq hG
  go_wp2_with fail
  refine (jthere_spec H3 HR3.out (by have := HZ.out.1; omega) hl).mono ?_
  rintro e w4 ⟨rfl, H4⟩
  rw [← HE.out]
  obtain ⟨th, hth⟩ : ∃ b, thereC st.1.length E = b := ⟨_, rfl⟩
  rw [hth]
  have HTH := Hid.mk' hth
  clear hth H3
  cases th with
  | false =>
    have HXX : Hid (X = (2, st)) := Hid.mk' (by rw [HX.out, doR, if_pos HKC.out, if_neg (by rw [HTH.out]; decide)])
    go_wp2_with fail
    go_ret
    rw [HXX.out]
    exact ⟨rfl, H4.weaken le3⟩
  | true =>
  have HXX : Hid (X = (errOf (runW st (doW E)).1, (runW st (doW E)).2)) := Hid.mk' (by rw [HX.out, doR, if_pos HKC.out, if_pos HTH.out])
  by_cases hn0 : n = 0
  · have hE0 : E = [] := by
      rw [HE.out]
      have h := HN.out
      rw [hn0] at h
      rw [List.eq_nil_of_length_eq_zero h.symm]; rfl
    have HX0 : Hid (X = (0, st)) := Hid.mk' (by rw [HXX.out, hE0, doW, if_pos rfl]; rfl)
    have t0 : ((n : Int) == 0) = true := by rw [beq_iff_eq]; omega
    clear hn0 hE0
    go_wp2_with fail
    go_ret
    rw [HX0.out]
    exact ⟨rfl, H4.weaken le3⟩
  have t0 : ((n : Int) == 0) = false := by rw [beq_eq_false_iff_ne]; omega
  have hE0 : E ≠ [] := by
    intro h
    have h2 := HN.out
    have h3 := HE.out
    rw [h] at h3
    have h4 := congrArg List.length h3
    rw [conC_len, ← h2] at h4
    simp at h4
    omega
  obtain ⟨M, hM⟩ : ∃ M, M = G - 1 := ⟨_, rfl⟩
  have HDW : Hid (doW E = bodW s M ++ ([((1 : Int), s.getD 0 [])] ++ (E ++ ([((1 : Int), [])] ++ clrW M)))) := Hid.mk' (by
    rw [doW, if_neg hE0, ← HSS.out, HSL.out, ← hM])
  have hM1 : M + 1 = G := by omega
  have HM := Hid.mk' hM
  have hqb : RdBB R3.cell? (.slice aq G cq) q → True := fun _ => trivial
  clear hqb hE0 hn0
  have hsub := RdBB.sub HQQ.out 1 G cq (by omega) (by rw [← HGG.out]; exact Nat.le_refl _) (by have := HQQ.out.bounds.1; rw [← HGG.out] at this; exact this) (Nat.le_refl _)
  rw [← hM] at hsub
  obtain ⟨qt, hqt⟩ : ∃ qt, qt = (q.drop 1).take M := ⟨_, rfl⟩
  rw [← hqt] at hsub
  have hqtl : qt.length = M := by rw [hqt, List.length_take, List.length_drop, ← HGG.out]; omega
  have HQT : Hid (∀ j (h : j < qt.length), qt[j].2 = s.getD (1 + j) []) := Hid.mk' (fun j h => by
    have h1 : qt[j]? = q[1 + j]? := by
      rw [hqt, List.getElem?_take, if_pos (by rw [← hqtl]; exact h), List.getElem?_drop]
    rw [List.getElem?_eq_getElem h] at h1
    rw [List.getD_eq_getElem?_getD, ← HQ.out, List.getElem?_map, ← h1]; rfl)
  have HQTL := Hid.mk' hqtl
  obtain ⟨aS, haS⟩ : ∃ x, x = adr aq cq 1 1 := ⟨_, rfl⟩
  have HAS := Hid.mk' haS
  rw [← haS] at hsub
  have HSUB : Hid (RdBB R3.cell? (.slice aS qt.length (cq - 1)) qt) := Hid.mk' (by rw [hqtl]; exact hsub)
  have i5 : (G : Int) ≤ (cq : Int) := by have := HQQ.out.bounds.1; rw [← HGG.out] at this; omega
  have i6 : (1 : Int) ≤ (G : Int) := by omega
  clear hsub hqt hqtl hM haS
  go_upto_region 9 with fail
  go_cut [35, 36, 37] (fun s35 s36 s37 wx => s35 = .slice aS M (cq - 1) ∧ s36 = .int .i64 (M : Int) ∧ s37 = .int .i64 0 ∧ Holds wx R3 (star (dA p st) L))
  case first =>
    go_wp2_with fail
    all_goals go_meet
    all_goals (case rel => exact ⟨by rw [HAS.out, HM.out], by rw [HM.out], rfl, H4⟩)
  clear H4
  obtain ⟨rfl, rfl, rfl, H4⟩ := hcut
  rename_i K9 hK9
  refine hK9 _ _ ?_
  clear hK9 K9
  go_wp2_with fail
  go_loopw [9, 10, 37] (fun d e i wx => ∃ (j : Nat) (ds es : List Ch), i = .int .i64 j ∧ j ≤ M ∧ Hid (conC ds = bodW s j ∧ conC es = clrW j ∧ (∀ x ∈ ds, RdB R3.cell? x.v x.data) ∧ (∀ x ∈ es, x.v = .slice none 0 0 ∧ x.data = [])) ∧ Hid (ds.length = j ∧ es.length = j) ∧ Holds wx R3 (star (row tChg 2 d j (ds.flatMap Ch.cells)) (star (row tChg 2 e j (es.flatMap Ch.cells)) (star (dA p st) L)))) (fun _ _ i _ => M - (intOf i).toNat)
  case atStart => exact ⟨0, [], [], rfl, Nat.zero_le _, Hid.mk' ⟨rfl, rfl, (fun _ h => by cases h), (fun _ h => by cases h)⟩, Hid.mk' ⟨rfl, rfl⟩, (H4.nilRow _ 2).nilRow _ 2⟩
  case round =>
    clear H4
    obtain ⟨j, ds, es, rfl, hj, HA, HL, H6⟩ := hrel
    obtain ⟨ad, cd, rfl⟩ := H6.rowRd.form
    obtain ⟨ae, ce, rfl⟩ := H6.swap.rowRd.form
    by_cases hlt : j < M
    · have d1 : decide ((j : Int) < (M : Int)) = true := by simp; omega
      have hjq : j < qt.length := by rw [HQTL.out]; exact hlt
      obtain ⟨b2, o2, ha2, hc2, hq2⟩ := RdBB.at HSUB.out hjq
      subst ha2
      replace hc2 := H6.cell hc2
      have gy := HQT.out j hjq
      generalize qt[j] = xy at *
      obtain ⟨vy, y2⟩ := xy
      simp only at hc2 hq2 gy
      obtain ⟨ay, cy, rfl⟩ := hq2.form
      have HGY := Hid.mk' gy
      have HQ2 := Hid.mk' hq2
      have i1 : (0 : Int) ≤ (j : Int) := by omega
      have i2 : (j : Int) < (M : Int) := by omega
      obtain ⟨m1, hm1⟩ : ∃ m, m = 2 + j := ⟨_, rfl⟩
      have ha1 : (2 : Int) + (j : Int) = (m1 : Int) := by omega
      have HM1 := Hid.mk' hm1
      clear hm1 hq2 gy hjq
      go_wp2_with (with_reducible refine stop_append ?_)
      have H7 := H6.alloc #[.int .i64 (m1 : Int), .slice ay y2.length cy] tChg
      have hr7 := (H7.toRow 2 1 1 (Nat.le_refl _) (by decide) rfl).rowRd
      refine Hold.go (wpList_append rfl _ _ rfl undChgs infoChg rfl (by decide) rfl rfl H7.drop hr7 (by simp [Value.oneCell']) (by simp only [maxLen]; omega) (by omega) ?_)
      intro v8 w8 H8
      clear H6 H7 hr7 hc2
      obtain ⟨a8, c8, rfl⟩ := H8.rowRd.form
      go_wp2_with (with_reducible refine stop_append ?_)
      have H9 := H8.alloc #[.int .i64 (m1 : Int), .slice none 0 0] tChg
      have hr9 := (H9.toRow 2 1 1 (Nat.le_refl _) (by decide) rfl).rowRd
      refine Hold.go (wpList_append rfl _ _ rfl undChgs infoChg rfl (by decide) rfl rfl H9.drop.swap hr9 (by simp [Value.oneCell']) (by simp only [maxLen]; omega) (by omega) ?_)
      intro v10 w10 H10
      clear H8 H9 hr9
      go_wp2_with fail
      go_roundw
      case rel =>
        obtain ⟨h1, h2, h3, h4⟩ := HA.out
        refine ⟨j + 1, ds ++ [⟨(m1 : Int), .slice ay y2.length cy, y2⟩], es ++ [⟨(m1 : Int), .slice none 0 0, []⟩], by go_num, hlt, Hid.mk' ⟨?_, ?_, ?_, ?_⟩, Hid.mk' ⟨?_, ?_⟩, ?_⟩
        · rw [conC_snoc, h1, bodW_succ, HM1.out, HGY.out]
        · rw [conC_snoc, h2, clrW_succ, HM1.out]
        · intro x hx
          rcases List.mem_append.1 hx with hx | hx
          · exact h3 x hx
          · obtain rfl := List.mem_singleton.1 hx
            exact HQ2.out
        · intro x hx
          rcases List.mem_append.1 hx with hx | hx
          · exact h4 x hx
          · obtain rfl := List.mem_singleton.1 hx
            exact ⟨rfl, rfl⟩
        · rw [List.length_append, HL.out.1]; rfl
        · rw [List.length_append, HL.out.2]; rfl
        · rw [List.flatMap_append, List.flatMap_append]
          exact H10.swap
      case measure => simp [intOf]; omega
    · have d1 : decide ((j : Int) < (M : Int)) = false := by simp; omega
      obtain rfl : j = M := by omega
      obtain ⟨R7, le7, H7, hr7⟩ := H6.freezeRow
      obtain ⟨R8, le8, H8, hr8⟩ := H7.freezeRow
      have le38 := le7.trans le8
      have HRD : Hid (RdC R8.cell? (.slice ad j cd) ds) := Hid.mk' ⟨by rw [HL.out.1]; exact Rd.le hr7 le8, fun x hx => Rd.le (HA.out.2.2.1 x hx) le38⟩
      have HRE : Hid (RdC R8.cell? (.slice ae j ce) es) := Hid.mk' ⟨by rw [HL.out.2]; exact hr8, fun x hx => by
        obtain ⟨e1, e2⟩ := HA.out.2.2.2 x hx
        rw [e1, e2]; exact Rd.nil⟩
      clear H6 H7 hr7 hr8
      go_wp2_with fail
      refine (jput_spec H8 HRD.out (by rw [HL.out.1]; omega)).mono ?_
      rintro e w9 ⟨R9, o9, fs9, le9, rfl, hst, H9⟩
      rw [HA.out.1] at hst
      have HST9 := Hid.mk' hst
      have hfl9 : fs9.length ≤ 1001 := by rw [hst.1, ← HA.out.1, conC_len, HL.out.1]; omega
      clear hst H8
      obtain ⟨a9, c9, rfl⟩ := H9.rowRd.form
      have hq0 : 0 < q.length := by rw [← HGG.out]; omega
      obtain ⟨b2, o2, ha2, hc2, hq2⟩ := RdBB.at HQQ.out hq0
      subst ha2
      replace hc2 : w9.cell? ⟨b2, o2, none⟩ = some q[0].1 := H9.cell ((le38.trans le9).cell hc2)
      have gy : q[0].2 = s.getD 0 [] := by
        rw [List.getD_eq_getElem?_getD, ← HQ.out, List.getElem?_map, List.getElem?_eq_getElem hq0]; rfl
      generalize q[0] = xy at *
      obtain ⟨vy, y2⟩ := xy
      simp only at hc2 hq2 gy
      obtain ⟨ay, cy, rfl⟩ := hq2.form
      have HGY := Hid.mk' gy
      have HQ2 := Hid.mk' (Rd.le hq2 (le38.trans le9))
      have i1 : (0 : Int) < (G : Int) := by omega
      clear hq2 gy hq0
      go_wp2_with fail
      obtain ⟨R10, le10, H10, hr10⟩ := ((H9.alloc #[.int .i64 1, .slice ay y2.length cy] tChg).toRow 2 1 1 (Nat.le_refl _) (by decide) rfl).freezeRow
      clear H9 hc2
      refine (jput_spec (p := p) H10 (rdC_one hr10 (Rd.le HQ2.out le10)) (by simp)).mono ?_
      clear hr10
      rintro e w11 ⟨R11, o11, gs, le11, rfl, hgs, H11⟩
      obtain ⟨R12, le12, H12, hr12⟩ := H11.freezeRow
      obtain ⟨a12, c12, rfl⟩ := Rd.form hr12
      have hgl : gs.length ≤ 1001 := by rw [hgs.1]; rw [conC_len]; simp
      have HGS := Hid.mk' (hgs.le le12)
      have HRG := Hid.mk' hr12
      clear hgs hr12 H11
      go_wp2_with (with_reducible refine stop_append ?_)
      refine Hold.go (wpList_append rfl _ _ rfl undSteps infoStep rfl (by decide) rfl rfl H12 (Rd.world HRG.out H12) HGS.out.oneCell (by simp only [maxLen]; omega) (by omega) ?_)
      intro v13 w13 H13
      have hst13 := (HST9.out.le ((le10).trans (le11.trans le12))).app HGS.out
      rw [← List.length_append] at H13
      have hfl13 : (fs9 ++ gs).length ≤ fs9.length + 1001 := by rw [List.length_append]; omega
      obtain ⟨fs13, hfs13⟩ : ∃ x, x = fs9 ++ gs := ⟨_, rfl⟩
      rw [← hfs13] at H13 hst13 hfl13
      have HST13 := Hid.mk' hst13
      clear HGS HRG hst13 hfs13 hgl H12
      obtain ⟨a13, c13, rfl⟩ := H13.rowRd.form
      have leC := (le38.trans le9).trans (le10.trans (le11.trans le12))
      go_wp2_with fail
      refine (jput_spec (p := p) H13 (HR3.out.le leC) (by rw [← HN.out]; omega)).mono ?_
      rintro e w14 ⟨R14, o14, gs, le14, rfl, hgs, H14⟩
      obtain ⟨R15, le15, H15, hr15⟩ := H14.freezeRow
      obtain ⟨a15, c15, rfl⟩ := Rd.form hr15
      have hgl : gs.length ≤ 1001 := by rw [hgs.1]; rw [conC_len, ← HN.out]; omega
      have HGS := Hid.mk' (hgs.le le15)
      have HRG := Hid.mk' hr15
      clear hgs hr15 H14
      go_wp2_with (with_reducible refine stop_append ?_)
      refine Hold.go (wpList_append rfl _ _ rfl undSteps infoStep rfl (by decide) rfl rfl H15 (Rd.world HRG.out H15) HGS.out.oneCell (by simp only [maxLen]; omega) (by omega) ?_)
      intro v16 w16 H16
      have hst16 := (HST13.out.le ((Snap.le.refl _).trans (le14.trans le15))).app HGS.out
      rw [← List.length_append] at H16
      have hfl16 : (fs13 ++ gs).length ≤ fs13.length + 1001 := by rw [List.length_append]; omega
      obtain ⟨fs16, hfs16⟩ : ∃ x, x = fs13 ++ gs := ⟨_, rfl⟩
      rw [← hfs16] at H16 hst16 hfl16
      have HST16 := Hid.mk' hst16
      clear HGS HRG hst16 hfs16 hgl H15
      obtain ⟨a16, c16, rfl⟩ := H16.rowRd.form
      clear H13
      go_wp2_with fail
      obtain ⟨R17, le17, H17, hr17⟩ := ((H16.alloc #[.int .i64 1, .slice none 0 0] tChg).toRow 2 1 1 (Nat.le_refl _) (by decide) rfl).freezeRow
      clear H16
      refine (jput_spec (p := p) H17 (cl1 _ _ _ hr17) (by simp)).mono ?_
      clear hr17
      rintro e w18 ⟨R18, o18, gs, le18, rfl, hgs, H18⟩
      obtain ⟨R19, le19, H19, hr19⟩ := H18.freezeRow
      obtain ⟨a19, c19, rfl⟩ := Rd.form hr19
      have hgl : gs.length ≤ 1001 := by rw [hgs.1]; rw [conC_len]; simp
      have HGS := Hid.mk' (hgs.le le19)
      have HRG := Hid.mk' hr19
      clear hgs hr19 H18
      go_wp2_with (with_reducible refine stop_append ?_)
      refine Hold.go (wpList_append rfl _ _ rfl undSteps infoStep rfl (by decide) rfl rfl H19 (Rd.world HRG.out H19) HGS.out.oneCell (by simp only [maxLen]; omega) (by omega) ?_)
      intro v20 w20 H20
      have hst20 := (HST16.out.le ((le17).trans (le18.trans le19))).app HGS.out
      rw [← List.length_append] at H20
      have hfl20 : (fs16 ++ gs).length ≤ fs16.length + 1001 := by rw [List.length_append]; omega
      obtain ⟨fs20, hfs20⟩ : ∃ x, x = fs16 ++ gs := ⟨_, rfl⟩
      rw [← hfs20] at H20 hst20 hfl20
      have HST20 := Hid.mk' hst20
      clear HGS HRG hst20 hfs20 hgl H19
      obtain ⟨a20, c20, rfl⟩ := H20.rowRd.form
      clear H17
      have leD := (le10.trans (le11.trans le12)).trans ((le14.trans le15).trans (le17.trans (le18.trans le19)))
      go_wp2_with fail
      refine (jput_spec (p := p) H20 (HRE.out.le (le9.trans leD)) (by rw [HL.out.2]; omega)).mono ?_
      rintro e w21 ⟨R21, o21, gs, le21, rfl, hgs, H21⟩
      obtain ⟨R22, le22, H22, hr22⟩ := H21.freezeRow
      obtain ⟨a22, c22, rfl⟩ := Rd.form hr22
      have hgl : gs.length ≤ 1001 := by rw [hgs.1]; rw [conC_len, HL.out.2]; omega
      have HGS := Hid.mk' (hgs.le le22)
      have HRG := Hid.mk' hr22
      clear hgs hr22 H21
      go_wp2_with (with_reducible refine stop_append ?_)
      refine Hold.go (wpList_append rfl _ _ rfl undSteps infoStep rfl (by decide) rfl rfl H22 (Rd.world HRG.out H22) HGS.out.oneCell (by simp only [maxLen]; omega) (by omega) ?_)
      intro v23 w23 H23
      have hst23 := (HST20.out.le ((Snap.le.refl _).trans (le21.trans le22))).app HGS.out
      rw [← List.length_append] at H23
      have hfl23 : (fs20 ++ gs).length ≤ fs20.length + 1001 := by rw [List.length_append]; omega
      obtain ⟨fs23, hfs23⟩ : ∃ x, x = fs20 ++ gs := ⟨_, rfl⟩
      rw [← hfs23] at H23 hst23 hfl23
      have HST23 := Hid.mk' hst23
      clear HGS HRG hst23 hfs23 hgl H22
      obtain ⟨a23, c23, rfl⟩ := H23.rowRd.form
      clear H20
      obtain ⟨R24, le24, H24, hr24⟩ := H23.freezeRow
      have HR24 := Hid.mk' hr24
      clear H23 hr24
      have hfin := HST23.out.le le24
      rw [conC, List.map_cons, List.map_nil, HGY.out, ← HE.out, HA.out.2.1, conC, List.map_cons, List.map_nil] at hfin
      have e : bodW s j ++ [((1 : Int), s.getD 0 [])] ++ E ++ [((1 : Int), [])] ++ clrW j = doW E := by rw [HDW.out]; simp [List.append_assoc]
      rw [e] at hfin
      have HFI := Hid.mk' hfin
      clear hfin e
      go_wp2_with fail
      refine (jrun_spec H24 HB.out HR24.out HFI.out).mono ?_
      rintro e w25 ⟨rfl, H25⟩
      go_wp2_with fail
      go_ret
      rw [HXX.out]
      exact ⟨rfl, H25.weaken (le3.trans ((le38.trans le9).trans (leD.trans (le21.trans (le22.trans le24)))))⟩
end Sh
/- sherdref18.Check. -/
set_option linter.unusedVariables false
set_option linter.unusedSimpArgs false
namespace Sh
open Go Go.RowKit Go.Proofs
attribute [local go_sem ↓] Go.wp_at_zero Go.wp_at_succ
set_option maxHeartbeats 1000000
set_option maxRecDepth 100000

theorem nodup_snoc {l : List Int} {x : Int} : (l ++ [x]).Nodup ↔ l.Nodup ∧ x ∉ l := by
  rw [List.nodup_append]
  constructor
  · rintro ⟨h1, _, h3⟩
    exact ⟨h1, fun h => h3 x h x (by simp) rfl⟩
  · rintro ⟨h1, h2⟩
    refine ⟨h1, by simp, fun a ha b hb => ?_⟩
    obtain rfl := List.mem_singleton.1 hb
    rintro rfl
    exact h2 ha
theorem not_nodup {l : List Int} {i k : Nat} (hk : k < i) (hi : i < l.length) (h : l[i] = l[k]'(by omega)) : ¬ l.Nodup := by
  intro hn
  have := (List.pairwise_iff_getElem.1 hn) k i (by omega) hi hk
  exact this h.symm
set_option maxHeartbeats 4000000
theorem chRCheck_spec {w : World} {R : Snap} {L : Asrt} {v : Value} {cs : List Ch} (H : Holds w R L) (hr : RdC R.cell? v cs) (hz : SzC cs) :
    Calls Try.prog 64 #[v] w fun e w' => e = .returned (.int .i64 (checkC (conC cs))) ∧ Holds w' R L := by
  obtain ⟨a, c, rfl⟩ := hr.form
  obtain ⟨n, hn⟩ : ∃ n, n = cs.length := ⟨_, rfl⟩
  obtain ⟨K, hK⟩ : ∃ K, K = checkC (conC cs) := ⟨_, rfl⟩
  obtain ⟨E, hE⟩ : ∃ E, E = conC cs := ⟨_, rfl⟩
  obtain ⟨AT, hAT⟩ : ∃ AT, AT = E.map Prod.fst := ⟨_, rfl⟩
  have HR := Hid.mk' hr
  have HN := Hid.mk' hn
  have HZ := Hid.mk' hz
  have HE := Hid.mk' hE
  have hn9 : n ≤ 1000 := by rw [hn]; exact hz.1
  have HEL : Hid (E.length = n) := Hid.mk' (by rw [hE, conC_len, hn])
  have HAL : Hid (AT.length = n) := Hid.mk' (by rw [hAT, List.length_map, hE, conC_len, hn])
  have HEG : Hid (∀ j (h : j < cs.length) (h2 : j < E.length), E[j] = (cs[j].at_, cs[j].data)) := Hid.mk' (fun j h h2 => by
    have := conC_get h
    rw [← hE, List.getElem?_eq_getElem h2] at this
    exact Option.some.inj this)
  have HAG : Hid (∀ j (h : j < cs.length) (h2 : j < AT.length), AT[j] = cs[j].at_) := Hid.mk' (fun j h h2 => by
    have h3 := HEG.out j h (by rw [HEL.out]; rw [HAL.out] at h2; exact h2)
    simp only [hAT, List.getElem_map, h3])
  rw [← hK]
  rw [← hE] at hK
  have HK := Hid.mk' hK
  have HAT := Hid.mk' hAT
  rw [← hn]
  clear hr hn hz hE hK hAT
  go_enter Try.func64, Try.ntmps64
  go_wp2_with fail
  go_loop [3] (fun i => ∃ (j : Nat), i = .int .i64 j ∧ j ≤ n ∧ Hid ((E.take j).all (fun c => placeC c.1) = true)) (fun i => n - (intOf i).toNat)
  case atStart => exact ⟨0, rfl, Nat.zero_le _, Hid.mk' rfl⟩
  case round =>
    obtain ⟨j, rfl, hj, hA⟩ := hrel
    by_cases hlt : j < n
    · have d1 : decide ((j : Int) < (n : Int)) = true := by simp; omega
      have hjs : j < cs.length := by rw [← HN.out]; exact hlt
      have hjE : j < E.length := by rw [HEL.out]; exact hlt
      obtain ⟨b2, o2, rfl, hc0, hc1, hq⟩ := RdC.at HR.out hjs
      have he := HEG.out j hjs hjE
      have HJE := Hid.mk' hjE
      generalize cs[j] = x at *
      obtain ⟨xa, xv, xd⟩ := x
      simp only at hc0 hc1 hq he
      replace hc0 := H.cell hc0
      have i1 : (0 : Int) ≤ (j : Int) := by omega
      have i2 : (j : Int) < (n : Int) := by omega
      have HE2 : Hid (∀ h : j < E.length, E[j] = (xa, xd)) := Hid.mk' (fun _ => he)
      clear hq hc1 hjE he hjs
      by_cases h0 : xa = 0
      · have t0 : (xa != 0) = false := by simp [h0]
        have HP : Hid (placeC xa = true) := Hid.mk' (by simp [placeC, h0])
        clear h0
        go_wp2_with fail
        go_round
        case rel => exact ⟨j + 1, by go_num, hlt, Hid.mk' (all_take_step HJE.out hA.out (by rw [HE2.out]; exact HP.out))⟩
        case measure => simp [intOf]; omega
      · have t0 : (xa != 0) = true := by simp [h0]
        by_cases h1 : xa < 34
        · have t1 : decide (xa < 34) = true := by simpa using h1
          have HKK : Hid (K = 2) := Hid.mk' (by rw [HK.out, checkC, all_not HJE.out (by rw [HE2.out]; simp [placeC, h0]; omega)]; rfl)
          have HX := Hid.mk' h0
          clear h0 h1
          go_wp2_with fail
          go_ret
          exact ⟨by rw [HKK.out]; rfl, H⟩
        · have t1 : decide (xa < 34) = false := by simp; omega
          by_cases h2 : 511 < xa
          · have t2 : decide (511 < xa) = true := by simpa using h2
            have HKK : Hid (K = 2) := Hid.mk' (by rw [HK.out, checkC, all_not HJE.out (by rw [HE2.out]; simp [placeC, h0]; omega)]; rfl)
            have HX := Hid.mk' h0
            clear h0 h1 h2
            go_wp2_with fail
            go_ret
            exact ⟨by rw [HKK.out]; rfl, H⟩
          · have t2 : decide (511 < xa) = false := by simp; omega
            have HP : Hid (placeC xa = true) := Hid.mk' (by simp [placeC]; omega)
            have HX := Hid.mk' h0
            clear h0 h1 h2
            go_wp2_with fail
            go_round
            case rel => exact ⟨j + 1, by go_num, hlt, Hid.mk' (all_take_step HJE.out hA.out (by rw [HE2.out]; exact HP.out))⟩
            case measure => simp [intOf]; omega
    · have d1 : decide ((j : Int) < (n : Int)) = false := by simp; omega
      obtain rfl : j = n := by omega
      have hA' : E.all (fun c => placeC c.1) = true := by have := hA.out; rwa [List.take_of_length_le (by rw [HEL.out]; exact Nat.le_refl _)] at this
      have HA := Hid.mk' hA'
      clear hA hA' d1 hlt hj
      go_wp2_with fail
      go_loopw [5] (fun i wx => ∃ (p : Nat), i = .int .i64 p ∧ p ≤ j ∧ Hid ((AT.take p).Nodup) ∧ Holds wx R L) (fun i _ => j - (intOf i).toNat)
      case atStart => exact ⟨0, rfl, Nat.zero_le _, Hid.mk' (by simp), H⟩
      case round =>
        clear H
        obtain ⟨p, rfl, hp, hD, H1⟩ := hrel
        by_cases hlt : p < j
        · have d1 : decide ((p : Int) < (j : Int)) = true := by simp; omega
          have hps : p < cs.length := by rw [← HN.out]; exact hlt
          have hpA : p < AT.length := by rw [HAL.out]; exact hlt
          obtain ⟨b2, o2, rfl, hc0, q1, q2⟩ := RdC.at HR.out hps
          rw [← HAG.out p hps hpA] at hc0
          obtain ⟨y, hy⟩ : ∃ y, y = AT[p] := ⟨_, rfl⟩
          rw [← hy] at hc0
          have HY : Hid (∀ h : p < AT.length, AT[p] = y) := Hid.mk' (fun _ => hy.symm)
          have C0 := Hid.mk' hc0
          have HPA := Hid.mk' hpA
          have i1 : (0 : Int) ≤ (p : Int) := by omega
          have i2 : (p : Int) < (j : Int) := by omega
          clear hy hc0 q1 q2 hps hpA
          go_wp2_with fail
          go_loopw [6] (fun i wx => ∃ (k : Nat), i = .int .i64 k ∧ k ≤ p ∧ Hid (y ∉ AT.take k) ∧ Holds wx R L) (fun i _ => p - (intOf i).toNat)
          case atStart => exact ⟨0, rfl, Nat.zero_le _, Hid.mk' (by simp), H1⟩
          case round =>
            clear H1
            obtain ⟨k, rfl, hk, hM, H2⟩ := hrel
            by_cases hlk : k < p
            · have d2 : decide ((k : Int) < (p : Int)) = true := by simp; omega
              have hks : k < cs.length := by rw [← HN.out]; omega
              have hkA : k < AT.length := by rw [HAL.out]; omega
              obtain ⟨b3, o3, ha3, hc3, q1, q2⟩ := RdC.at HR.out hks
              simp only [Option.some.injEq, Addr.mk.injEq, and_true] at ha3
              obtain ⟨rfl, rfl⟩ := ha3
              rw [← HAG.out k hks hkA] at hc3
              obtain ⟨z, hz⟩ : ∃ z, z = AT[k] := ⟨_, rfl⟩
              rw [← hz] at hc3
              have HZZ : Hid (∀ h : k < AT.length, AT[k] = z) := Hid.mk' (fun _ => hz.symm)
              have HKA := Hid.mk' hkA
              replace hc3 := H2.cell hc3
              have hc0 := H2.cell C0.out
              have i3 : (0 : Int) ≤ (k : Int) := by omega
              have i4 : (k : Int) < (j : Int) := by omega
              clear hz q1 q2 hks hkA
              go_wp2_with fail
              go_quiet (fail)
              by_cases hyz : y = z
              · have t1 : (y == z) = true := by simpa using hyz
                have HKK : Hid (K = 5) := Hid.mk' (by
                  rw [HK.out, checkC, if_pos HA.out, if_neg]
                  rw [← HAT.out]
                  exact not_nodup hlk HPA.out (by rw [HY.out, HZZ.out, hyz]))
                have HX := Hid.mk' hyz
                clear hyz
                go_wp2_with fail
                go_ret
                exact ⟨by rw [HKK.out]; rfl, H2.drewN _⟩
              · have t1 : (y == z) = false := by simpa using hyz
                have HX := Hid.mk' hyz
                clear hyz
                go_wp2_with fail
                go_roundw
                case rel =>
                  refine ⟨k + 1, by go_num, hlk, Hid.mk' ?_, H2.drewN _⟩
                  rw [List.take_succ_eq_append_getElem HKA.out, HZZ.out, List.mem_append, List.mem_singleton]
                  rintro (h | h)
                  · exact hM.out h
                  · exact HX.out h
                case measure => simp [intOf]; omega
            · have d2 : decide ((k : Int) < (p : Int)) = false := by simp; omega
              obtain rfl : k = p := by omega
              go_wp2_with fail
              go_roundw
              case rel =>
                refine ⟨k + 1, by go_num, hlt, Hid.mk' ?_, H2⟩
                rw [List.take_succ_eq_append_getElem HPA.out, HY.out, nodup_snoc]
                exact ⟨hD.out, hM.out⟩
              case measure => simp [intOf]; omega
        · have d1 : decide ((p : Int) < (j : Int)) = false := by simp; omega
          obtain rfl : p = j := by omega
          have hD' : (E.map Prod.fst).Nodup := by have := hD.out; rwa [List.take_of_length_le (by rw [HAL.out]; exact Nat.le_refl _), HAT.out] at this
          have HND := Hid.mk' hD'
          clear hD hD' d1 hlt hp
          go_wp2_with fail
          go_loop [7] (fun i => ∃ (k : Nat), i = .int .i64 k ∧ k ≤ p ∧ Hid ((E.take k).all (fun c => formC c.2) = true)) (fun i => p - (intOf i).toNat)
          case atStart => exact ⟨0, rfl, Nat.zero_le _, Hid.mk' rfl⟩
          case round =>
            obtain ⟨k, rfl, hk, hF⟩ := hrel
            by_cases hlt : k < p
            · have d2 : decide ((k : Int) < (p : Int)) = true := by simp; omega
              have hjs : k < cs.length := by rw [← HN.out]; exact hlt
              have hjE : k < E.length := by rw [HEL.out]; exact hlt
              obtain ⟨b2, o2, rfl, hc0, hc1, hq⟩ := RdC.at HR.out hjs
              have he := HEG.out k hjs hjE
              have HJE := Hid.mk' hjE
              generalize cs[k] = x at *
              obtain ⟨xa, xv, xd⟩ := x
              simp only at hc0 hc1 hq he
              obtain ⟨ax, cx, rfl⟩ := hq.form
              obtain ⟨l, hl⟩ : ∃ l, l = xd.length := ⟨_, rfl⟩
              rw [← hl] at hc1
              replace hc1 := H1.cell hc1
              have i1 : (0 : Int) ≤ (k : Int) := by omega
              have i2 : (k : Int) < (p : Int) := by omega
              have HE2 : Hid (∀ h : k < E.length, E[k] = (xa, xd)) := Hid.mk' (fun _ => he)
              have HL := Hid.mk' hl
              have hlm := Rd.max hq
              rw [← hl] at hlm
              unfold maxLen at hlm
              clear hq hl hjE he hjs hc0
              by_cases h0 : l = 0
              · have t2 : ((l : Int) != 0) = false := by simp; omega
                have HFX : Hid (formC xd = true) := Hid.mk' (by simp [formC, ← HL.out, h0])
                clear h0
                go_wp2_with fail
                go_round
                case rel => exact ⟨k + 1, by go_num, hlt, Hid.mk' (all_take_step HJE.out hF.out (by rw [HE2.out]; exact HFX.out))⟩
                case measure => simp [intOf]; omega
              · have t2 : ((l : Int) != 0) = true := by simp; omega
                by_cases h64 : l = 64
                · have t3 : ((l : Int) != 64) = false := by simp; omega
                  have HFX : Hid (formC xd = true) := Hid.mk' (by simp [formC, ← HL.out, h64])
                  have H64 := Hid.mk' h64
                  clear h0 h64
                  go_wp2_with fail
                  go_round
                  case rel => exact ⟨k + 1, by go_num, hlt, Hid.mk' (all_take_step HJE.out hF.out (by rw [HE2.out]; exact HFX.out))⟩
                  case measure => simp [intOf]; omega
                · have t3 : ((l : Int) != 64) = true := by simp; omega
                  have HKK : Hid (K = 3) := Hid.mk' (by
                    rw [HK.out, checkC, if_pos HA.out, if_pos HND.out, all_not HJE.out (by rw [HE2.out]; simp [formC, ← HL.out, h0, h64])]; rfl)
                  have HX := Hid.mk' (And.intro h0 h64)
                  clear h0 h64
                  go_wp2_with fail
                  go_ret
                  exact ⟨by rw [HKK.out]; rfl, H1⟩
            · have d2 : decide ((k : Int) < (p : Int)) = false := by simp; omega
              obtain rfl : k = p := by omega
              have hF' : E.all (fun c => formC c.2) = true := by have := hF.out; rwa [List.take_of_length_le (by rw [HEL.out]; exact Nat.le_refl _)] at this
              have HF := Hid.mk' hF'
              have HPL : Hid (∀ x ∈ cs, x.at_ ≤ 9223372036854775807) := Hid.mk' (fun x hx => by
                obtain ⟨i, hi, rfl⟩ := List.mem_iff_getElem.1 hx
                have h1 := HEG.out i hi (by rw [HEL.out, HN.out]; exact hi)
                have h2 := List.all_eq_true.1 HA.out _ (List.getElem_mem (by rw [HEL.out, HN.out]; exact hi))
                rw [h1] at h2
                simp [placeC] at h2
                omega)
              clear hF hF'
              go_wp2_with fail
              refine (chText_spec H1 (by have h := HR.out; rw [← HN.out] at h; exact h) HZ.out HPL.out).mono ?_
              rintro e w6 ⟨o6, rfl, H6⟩
              obtain ⟨a6, c6, rfl⟩ := H6.rowRd.form
              rw [textC_len, ← HE.out]
              have hs9 := sizeC_le cs HZ.out k
              rw [← HE.out, List.take_of_length_le (by rw [HEL.out]; exact Nat.le_refl _)] at hs9
              have hz1 := HZ.out.1
              obtain ⟨z, hz⟩ : ∃ z, z = sizeC E := ⟨_, rfl⟩
              rw [← hz] at hs9 ⊢
              have HSZ := Hid.mk' hz
              have H7 := H6.drop
              clear hz H6
              by_cases hzz : 1856 < z
              · have t4 : decide ((1856 : Int) < (z : Int)) = true := by simp; omega
                have t4n : decide (1856 < z) = true := by simp; omega
                have HKK : Hid (K = 11) := Hid.mk' (by
                  rw [HK.out, checkC, if_pos HA.out, if_pos HND.out, if_pos HF.out, if_neg (by rw [← HSZ.out]; omega)])
                clear hzz
                go_wp2_with fail
                go_ret
                exact ⟨by rw [HKK.out]; rfl, H7⟩
              · have t4 : decide ((1856 : Int) < (z : Int)) = false := by simp; omega
                have t4n : decide (1856 < z) = false := by simp; omega
                have HKK : Hid (K = 0) := Hid.mk' (by
                  rw [HK.out, checkC, if_pos HA.out, if_pos HND.out, if_pos HF.out, if_pos (by rw [← HSZ.out]; omega)])
                clear hzz
                go_wp2_with fail
                go_ret
                exact ⟨by rw [HKK.out]; rfl, H7⟩
end Sh
/- sherdref19: There, Check, Write, With. -/
set_option linter.unusedVariables false
set_option linter.unusedSimpArgs false
namespace Sh
open Go Go.RowKit Go.Proofs
attribute [local go_sem ↓] Go.wp_at_zero Go.wp_at_succ
set_option maxHeartbeats 1000000
set_option maxRecDepth 100000

theorem rthere_spec {w : World} {R : Snap} {L : Asrt} {N : Nat} {v : Value} {cs : List Ch} (H : Holds w R L) (hr : RdC R.cell? v cs) (hn : cs.length ≤ 10000) :
    Calls Try.prog 167 #[.int .i64 (N : Int), v] w fun e w' => e = .returned (.bool (thereC N (conC cs))) ∧ w = w' := by
  obtain ⟨a, c, rfl⟩ := hr.form
  obtain ⟨n, hnn⟩ : ∃ n, n = cs.length := ⟨_, rfl⟩
  obtain ⟨E, hE⟩ : ∃ E, E = conC cs := ⟨_, rfl⟩
  have HN := Hid.mk' hnn
  have HR : Hid (RdC R.cell? (.slice a n c) cs) := Hid.mk' (by rw [hnn]; exact hr)
  have HEL : Hid (E.length = n) := Hid.mk' (by rw [hE, conC_len, hnn])
  have HEG : Hid (∀ j (h : j < cs.length) (h2 : j < E.length), E[j] = (cs[j].at_, cs[j].data)) := Hid.mk' (fun j h h2 => by
    have := conC_get h
    rw [← hE, List.getElem?_eq_getElem h2] at this
    exact Option.some.inj this)
  obtain ⟨y, hy⟩ : ∃ y, y = thereC N E := ⟨_, rfl⟩
  have HY := Hid.mk' hy
  rw [← hE, ← hy]
  rw [← hnn] at hn ⊢
  clear hr hnn hE hy
  go_enter Try.func167, Try.ntmps167
  go_wp2_with fail
  go_loop [5] (fun i => ∃ (j : Nat), i = .int .i64 j ∧ j ≤ n ∧ Hid ((E.take j).all (fun c => decide (c.1 < (N : Int))) = true)) (fun i => n - (intOf i).toNat)
  case atStart => exact ⟨0, rfl, Nat.zero_le _, Hid.mk' rfl⟩
  case round =>
    obtain ⟨j, rfl, hj, hA⟩ := hrel
    by_cases hlt : j < n
    · have d1 : decide ((j : Int) < (n : Int)) = true := by simp; omega
      have hjs : j < cs.length := by rw [← HN.out]; exact hlt
      have hjE : j < E.length := by rw [HEL.out]; exact hlt
      obtain ⟨b2, o2, rfl, hc0, hc1, hq⟩ := RdC.at HR.out hjs
      have he := HEG.out j hjs hjE
      have HJE := Hid.mk' hjE
      generalize cs[j] = x at *
      obtain ⟨xa, xv, xd⟩ := x
      simp only at hc0 hc1 hq he
      replace hc0 := H.cell hc0
      have i1 : (0 : Int) ≤ (j : Int) := by omega
      have i2 : (j : Int) < (n : Int) := by omega
      have HE2 : Hid (∀ h : j < E.length, E[j] = (xa, xd)) := Hid.mk' (fun _ => he)
      clear hq hc1 hjE he hjs
      by_cases hat : (N : Int) ≤ xa
      · have d2 : decide ((N : Int) ≤ xa) = true := decide_eq_true hat
        have HYY : Hid (y = false) := Hid.mk' (by
          rw [HY.out, thereC, all_not' HJE.out (by rw [HE2.out]; simp; omega)]; rfl)
        clear hat
        go_wp2_with fail
        go_ret
        exact ⟨ret_bool HYY.out.symm, rfl⟩
      · have d2 : decide ((N : Int) ≤ xa) = false := decide_eq_false hat
        have HX := Hid.mk' hat
        clear hat
        go_wp2_with fail
        go_round
        case rel =>
          refine ⟨j + 1, by go_num, hlt, Hid.mk' ?_⟩
          rw [List.take_succ_eq_append_getElem HJE.out, List.all_append, hA.out, HE2.out]
          have := HX.out
          simp; omega
        case measure => simp [intOf]; omega
    · have d1 : decide ((j : Int) < (n : Int)) = false := by simp; omega
      obtain rfl : j = n := by omega
      have hA' : E.all (fun c => decide (c.1 < (N : Int))) = true := by have := hA.out; rwa [List.take_of_length_le (by rw [HEL.out]; exact Nat.le_refl _)] at this
      have HYY : Hid (y = decide (34 ≤ N)) := Hid.mk' (by rw [HY.out, thereC, hA', Bool.true_and])
      clear hA hA'
      go_wp2_with fail
      go_ret
      refine ⟨ret_bool ?_, rfl⟩
      rw [HYY.out]
      exact decide_eq_decide.2 (by omega)
/-- What is wrong with some changes of a disk of so many sectors. -/
def chkJ (N : Nat) (E : List En) : Int := if checkC E = 0 then (if thereC N E = true then 0 else 2) else checkC E
theorem rjcheck_spec {w : World} {R : Snap} {L : Asrt} {N : Nat} {v : Value} {cs : List Ch} (H : Holds w R L) (hr : RdC R.cell? v cs) (hz : SzC cs) :
    Calls Try.prog 93 #[.int .i64 (N : Int), v] w fun e w' => e = .returned (.int .i64 (chkJ N (conC cs))) ∧ Holds w' R L := by
  obtain ⟨a, c, rfl⟩ := hr.form
  obtain ⟨n, hn⟩ : ∃ n, n = cs.length := ⟨_, rfl⟩
  have HN := Hid.mk' hn
  have HZ := Hid.mk' hz
  have HR : Hid (RdC R.cell? (.slice a n c) cs) := Hid.mk' (by rw [hn]; exact hr)
  rw [← hn]
  obtain ⟨k, hk⟩ : ∃ k, checkC (conC cs) = k := ⟨_, rfl⟩
  obtain ⟨th, hth⟩ : ∃ b, thereC N (conC cs) = b := ⟨_, rfl⟩
  obtain ⟨X, hX⟩ : ∃ X, X = chkJ N (conC cs) := ⟨_, rfl⟩
  rw [← hX]
  rw [chkJ, hth, hk] at hX
  have HX := Hid.mk' hX
  clear hX
  have HK := Hid.mk' hk
  have HTH := Hid.mk' hth
  clear hr hz hn hk hth
  go_enter Try.func93, Try.ntmps93
  go_wp2_with fail
  refine (chRCheck_spec H HR.out HZ.out).mono ?_
  rintro e w2 ⟨rfl, H2⟩
  rw [HK.out]
  clear H
  by_cases hk0 : k = 0
  · subst hk0
    go_wp2_with fail
    refine (rthere_spec (N := N) H2 HR.out (by have := HZ.out.1; omega)).mono ?_
    rintro e w3 ⟨rfl, rfl⟩
    rw [HTH.out]
    cases th with
    | true =>
      go_wp2_with fail
      go_ret
      exact ⟨by rw [HX.out]; rfl, H2⟩
    | false =>
      go_wp2_with fail
      go_ret
      exact ⟨by rw [HX.out]; rfl, H2⟩
  · have t0 : (k == 0) = false := by simpa using hk0
    have HXX : Hid (X = k) := Hid.mk' (by rw [HX.out, if_neg hk0])
    clear hk0
    go_wp2_with fail
    go_ret
    exact ⟨by rw [HXX.out]; rfl, H2⟩
abbrev mA (p : Nat) (st : DSt) : Asrt := mS p st.1 st.2.1 st.2.2
/-- All sectors are whole. -/
def S64 (st : DSt) : Prop := ∀ s ∈ st.1, s.length = 64
theorem S64.wr {st : DSt} (h : S64 st) (c : En) : S64 (wrSt st c) := by
  unfold S64 wrSt wS
  simp only
  split
  · rename_i ho
    refine all_set h (pad64_len ?_)
    have : wFit st.1.length c.1 c.2 = true := by
      rw [wOk, Bool.and_eq_true] at ho; exact ho.1
    have := of_decide_eq_true this
    omega
  · exact h
theorem runW_inv {l : List En} : ∀ {st : DSt}, Bd st → S64 st → Bd (runW st l).2 ∧ S64 (runW st l).2 ∧ (runW st l).2.1.length = st.1.length := by
  induction l with
  | nil => intro st h1 h2; exact ⟨h1, h2, rfl⟩
  | cons c l ih =>
    intro st h1 h2
    rw [runW]
    split
    · obtain ⟨k1, k2, k3⟩ := ih (h1.wr c) (h2.wr c)
      exact ⟨k1, k2, by rw [k3, wrSt_len]⟩
    · exact ⟨h1.wr c, h2.wr c, wrSt_len st c⟩
theorem runW_snoc : ∀ (st : DSt) (l : List En) (c : En), runW st (l ++ [c]) = if (runW st l).1 = true then (wrOk (runW st l).2 c, wrSt (runW st l).2 c) else runW st l
  | st, [], c => by
    simp only [List.nil_append, runW]
    by_cases h : wrOk st c = true
    · simp [h]
    · simp [h]
  | st, d :: l, c => by
    rw [List.cons_append, runW, runW]
    by_cases h : wrOk st d = true
    · rw [if_pos h, if_pos h]; exact runW_snoc (wrSt st d) l c
    · rw [if_neg h, if_neg h]; rfl
theorem runW_stop {st : DSt} {l : List En} (m : List En) (h : (runW st l).1 = false) : runW st (l ++ m) = runW st l := by
  induction l generalizing st with
  | nil => cases h
  | cons c l ih =>
    rw [List.cons_append, runW, runW]
    rw [runW] at h
    by_cases hc : wrOk st c = true
    · rw [if_pos hc] at h ⊢
      rw [if_pos hc]
      exact ih h
    · rw [if_neg hc, if_neg hc]
set_option maxHeartbeats 2000000
theorem rjwrite_spec {w : World} {R : Snap} {L : Asrt} {p : Nat} {st : DSt} {v : Value} {cs : List Ch} (H : Holds w R (star (mA p st) L)) (hb : Bd st) (h64 : S64 st) (hl : st.1.length ≤ 1000) (hr : RdC R.cell? v cs) (hn : cs.length ≤ 10000) :
    Calls Try.prog 95 #[.pointer (some ⟨p, 0, none⟩), v] w fun e w' => e = .returned (.int .i64 (errOf (runW st (conC cs)).1)) ∧ Holds w' R (star (mA p (runW st (conC cs)).2) L) := by
  obtain ⟨a, c, rfl⟩ := hr.form
  obtain ⟨n, hnn⟩ : ∃ n, n = cs.length := ⟨_, rfl⟩
  obtain ⟨E, hE⟩ : ∃ E, E = conC cs := ⟨_, rfl⟩
  have HN := Hid.mk' hnn
  have HB := Hid.mk' hb
  have H6 := Hid.mk' h64
  have HR : Hid (RdC R.cell? (.slice a n c) cs) := Hid.mk' (by rw [hnn]; exact hr)
  have HEL : Hid (E.length = n) := Hid.mk' (by rw [hE, conC_len, hnn])
  have HEG : Hid (∀ j (h : j < cs.length) (h2 : j < E.length), E[j] = (cs[j].at_, cs[j].data)) := Hid.mk' (fun j h h2 => by
    have := conC_get h
    rw [← hE, List.getElem?_eq_getElem h2] at this
    exact Option.some.inj this)
  obtain ⟨y, hy⟩ : ∃ y, y = runW st E := ⟨_, rfl⟩
  have HY := Hid.mk' hy
  rw [← hE, ← hy]
  rw [← hnn] at hn ⊢
  clear hr hnn hE hy hb h64
  go_enter Try.func95, Try.ntmps95
  go_wp2_with fail
  go_loopw [5] (fun i wx => ∃ (j : Nat) (s : DSt), i = .int .i64 j ∧ j ≤ n ∧ Hid (runW st (E.take j) = (true, s)) ∧ Holds wx R (star (mA p s) L)) (fun i _ => n - (intOf i).toNat)
  case atStart => exact ⟨0, st, rfl, Nat.zero_le _, Hid.mk' rfl, H⟩
  case round =>
    clear H
    obtain ⟨j, s, rfl, hj, hA, H3⟩ := hrel
    by_cases hlt : j < n
    · have d1 : decide ((j : Int) < (n : Int)) = true := by simp; omega
      have hjs : j < cs.length := by rw [← HN.out]; exact hlt
      have hjE : j < E.length := by rw [HEL.out]; exact hlt
      obtain ⟨b2, o2, rfl, hc0, hc1, hq⟩ := RdC.at HR.out hjs
      have he := HEG.out j hjs hjE
      have HJE := Hid.mk' hjE
      have HCJ : Hid (j < cs.length) := Hid.mk' hjs
      generalize cs[j] = x at *
      obtain ⟨xa, xv, xd⟩ := x
      simp only at hc0 hc1 hq he
      obtain ⟨ax, cx, rfl⟩ := hq.form
      replace hc0 := H3.cell hc0
      replace hc1 := H3.cell hc1
      have i1 : (0 : Int) ≤ (j : Int) := by omega
      have i2 : (j : Int) < (n : Int) := by omega
      have HE2 : Hid (∀ h : j < E.length, E[j] = (xa, xd)) := Hid.mk' (fun _ => he)
      have hinv := runW_inv (l := E.take j) HB.out H6.out
      rw [hA.out] at hinv
      have HIV := Hid.mk' hinv
      have HNX : Hid (runW st (E.take (j + 1)) = (wrOk s (xa, xd), wrSt s (xa, xd))) := Hid.mk' (by
        rw [List.take_succ_eq_append_getElem HJE.out, runW_snoc, hA.out, HE2.out]; rfl)
      obtain ⟨l, hl2⟩ : ∃ l, l = xd.length := ⟨_, rfl⟩
      have HQ : Hid (RdB R.cell? (.slice ax l cx) xd) := Hid.mk' (by rw [hl2]; exact hq)
      rw [← hl2] at hc1
      clear hq hjE he hjs hinv hl2
      go_upto_region 4 with fail
      go_still_tail 11, (by kernel_rfl)
      change wpList _ _ _ _ _ wr.drew
      go_wp2_with fail
      refine (mwrite_spec H3.drew HIV.out.2.1 (by rw [HIV.out.2.2]; exact hl) HQ.out HIV.out.1).mono ?_
      rintro e w4 ⟨rfl, H4⟩
      obtain ⟨ok, hok⟩ : ∃ b, wrOk s (xa, xd) = b := ⟨_, rfl⟩
      rw [show wOk s.1.length s.2.1 s.2.2 xa xd = ok from hok]
      have HOK := Hid.mk' hok
      clear H3 hc0 hc1 hok
      cases ok with
      | true =>
        go_wp2_with fail
        go_roundw
        case rel =>
          exact ⟨j + 1, wrSt s (xa, xd), by go_num, hlt, Hid.mk' (by rw [HNX.out, HOK.out]), H4⟩
        case measure => simp [intOf]; omega
      | false =>
        have HYY : Hid (y = (false, wrSt s (xa, xd))) := Hid.mk' (by
          rw [HY.out, ← List.take_append_drop (j + 1) E, runW_stop _ (by rw [HNX.out]; exact HOK.out), HNX.out, HOK.out])
        go_wp2_with fail
        go_ret
        exact ⟨by rw [HYY.out]; rfl, by rw [HYY.out]; exact H4⟩
    · have d1 : decide ((j : Int) < (n : Int)) = false := by simp; omega
      obtain rfl : j = n := by omega
      have HYY : Hid (y = (true, s)) := Hid.mk' (by
        have := hA.out
        rw [List.take_of_length_le (by rw [HEL.out]; exact Nat.le_refl _)] at this
        rw [HY.out, this])
      go_wp2_with fail
      go_ret
      exact ⟨by rw [HYY.out]; rfl, by rw [HYY.out]; exact H3⟩
theorem rjwith_spec {w : World} {R : Snap} {L : Asrt} {S : List (List UInt8)} {u v : Value} {cs : List Ch} (H : Holds w R L) (hu : RdB R.cell? u S.flatten) (h64 : ∀ s ∈ S, s.length = 64) (hl : S.length ≤ 1000) (hr : RdC R.cell? v cs) (hn : cs.length ≤ 10000) :
    Calls Try.prog 103 #[u, v] w fun e w' => ∃ o, e = .returned o ∧ Holds w' R (star (rowB o (runW (S, -1, false) (conC cs)).2.1.flatten) L) := by
  obtain ⟨a, c, rfl⟩ := hr.form
  obtain ⟨au, cu, rfl⟩ := hu.form
  obtain ⟨n, hnn⟩ : ∃ n, n = cs.length := ⟨_, rfl⟩
  have HN := Hid.mk' hnn
  have HR : Hid (RdC R.cell? (.slice a n c) cs) := Hid.mk' (by rw [hnn]; exact hr)
  have hfl := flatten_len h64
  obtain ⟨m, hm⟩ : ∃ m, m = S.flatten.length := ⟨_, rfl⟩
  have hm9 : m ≤ 64000 := by omega
  have HM := Hid.mk' hm
  have HU : Hid (RdB R.cell? (.slice au m cu) S.flatten) := Hid.mk' (by rw [hm]; exact hu)
  have H6 := Hid.mk' h64
  rw [← hnn] at hn ⊢
  rw [← hm]
  clear hr hnn hfl hm hu h64
  go_enter Try.func103, Try.ntmps103
  go_wp2_with (with_reducible refine stop_append ?_)
  refine Hold.go (wpList_appendB rfl _ _ rfl rfl rfl (freshB H) (HU.out.world (freshB H).drop) (by rw [← HM.out, List.length_nil]; omega) ?_)
  intro v2 w2 H2
  rw [List.nil_append] at H2
  obtain ⟨a2, c2, rfl⟩ := H2.rowRd.form
  obtain ⟨m2, hm2⟩ : ∃ m, m = S.flatten.length := ⟨_, rfl⟩
  rw [← hm2] at H2 ⊢
  clear hm2
  go_wp2_with fail
  have H3 : Holds _ R (star (mA w2.heap.size (S, -1, false)) L) := m_shut (H2.alloc #[.slice a2 m2 c2, .int .i64 (-1), .bool false] 134)
  refine (rjwrite_spec H3 (show Bd (S, -1, false) from (by decide : (-1 : Int) ≤ -1 ∧ (-1 : Int) ≤ 9223372036854775807)) H6.out hl HR.out (by rw [← HN.out]; exact hn)).mono ?_
  rintro e w4 ⟨rfl, H4⟩
  obtain ⟨a5, c5, H5⟩ := m_open H4
  obtain ⟨m5, hm5⟩ : ∃ m, m = (runW (S, -1, false) (conC cs)).2.1.flatten.length := ⟨_, rfl⟩
  rw [← hm5] at H5
  clear H4 H3 H2 H hm5
  obtain ⟨l1, n1, c1, z1⟩ := Holds.facts (H5)
  go_wp2_with fail
  go_ret
  exact ⟨_, rfl, H5.drop⟩
end Sh
