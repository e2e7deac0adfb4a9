/- EntPutsLaw EntAct EntGetsLaw: joined texts, each with its own sentence below. -/
import Derived.Test.YtmogagcffebbaaaEn17
import Derived.Test.YtmogagcffebbaaaEn14
import Derived.Test.YtmogagcffebbaaaEn2
import Derived.Test.YtmogagcffebbaaaEn6
/- EntryPuts: the walk. -/
set_option linter.unusedVariables false
set_option linter.unusedSimpArgs false
namespace Sh
open Go Go.RowKit Go.Proofs
attribute [local go_sem ↓] Go.wp_at_zero Go.wp_at_succ
set_option maxHeartbeats 1000000
set_option maxRecDepth 100000

set_option maxHeartbeats 8000000
theorem entryPuts_walk (W : World) {v vm : Value} {cs : List Ch} {mo : List (Value × List UInt8)} (hb0 : Rd W.cell? 2 v cs.length (cs.flatMap Ch.cells)) (gd0 : ∀ x ∈ cs, RdB W.cell? x.v x.data) (hm1 : Rd W.cell? 1 vm mo.length (mo.flatMap fun q => [q.1])) (gm1 : ∀ q ∈ mo, RdB W.cell? q.1 q.2) :
    Calls Try.prog 13 #[v, vm] W fun e w' => e = .returned (.bool true) ∧ Below W.heap.size W w' := by
  have hr : RdC (Snap.of W).cell? v cs := ⟨hb0, gd0⟩
  have hmo : RdBB (Snap.of W).cell? vm mo := secs_of hm1 gm1
  clear hb0 gd0 hm1 gm1
  obtain ⟨a, c, rfl⟩ := hr.form
  obtain ⟨am, cm, rfl⟩ := hmo.form
  have hmx := Rd.max hmo.1
  unfold maxLen at hmx
  obtain ⟨n, hn⟩ : ∃ n, n = cs.length := ⟨_, rfl⟩
  obtain ⟨K, hK⟩ : ∃ K, K = mo.length := ⟨_, rfl⟩
  have HN := Hid.mk' hn
  have HKN := Hid.mk' hK
  have HR : Hid (RdC (Snap.of W).cell? (.slice a n c) cs) := Hid.mk' (by rw [hn]; exact hr)
  have HM := Hid.mk' hmo
  rw [← hK] at hmx ⊢
  rw [← hn]
  have H := Holds.start W
  obtain ⟨g0, hg⟩ : ∃ g0, W.heap.size = g0 := ⟨_, rfl⟩
  rw [hg]
  clear hr hmo hn hK
  go_enter Try.func13, Try.ntmps13
  go_wp2_with fail
  refine (few18_spec H HR.out).mono ?_
  rintro e w2 ⟨b, rfl, hb, H2⟩
  have HB := Hid.mk' hb
  clear hb H
  cases b with
  | false =>
    go_wp2_with fail
    refine (alive18 H2 celly_emp).mono ?_
    rintro e w99 ⟨rfl, H99⟩
    go_wp2_with fail
    go_ret
    exact ⟨rfl, hg ▸ H99.toBelow (Snap.le.refl _)⟩
  | true =>
  have HSZ : Hid (SzC cs) := Hid.mk' ⟨by have := (HB.out rfl).1; omega, fun x hx => by have := (HB.out rfl).2 x hx; omega⟩
  clear HB
  by_cases h5 : 5 < K
  · have t5 : decide ((5 : Int) < (K : Int)) = true := by simp; omega
    have t5n : decide (5 < K) = true := by simp; omega
    go_wp2_with fail
    refine (alive18 H2 celly_emp).mono ?_
    rintro e w99 ⟨rfl, H99⟩
    go_wp2_with fail
    go_ret
    exact ⟨rfl, hg ▸ H99.toBelow (Snap.le.refl _)⟩
  have t5 : decide ((5 : Int) < (K : Int)) = false := by simp; omega
  have t5n : decide (5 < K) = false := by simp; omega
  go_wp2_with fail
  refine (new_crc H2).mono ?_
  rintro e w9 ⟨p, rfl, H9⟩
  obtain ⟨R3, le3, H10, hT⟩ := H9.freezeBlk
  have leA := le3
  replace HR := Hid.mk' (HR.out.le le3)
  replace HM := Hid.mk' (HM.out.le le3)
  clear H2 H9 le3 t5 t5n
  obtain ⟨kc, hkc⟩ : ∃ kc, checkC (conC cs) = kc := ⟨_, rfl⟩
  have HKC := Hid.mk' hkc
  clear hkc
  by_cases hk0 : kc = 0
  · subst hk0
    go_wp2_with fail
    refine (entPut_ok H10 celly_emp hT HR.out HSZ.out HKC.out).mono ?_
    rintro e w11 ⟨o, q, rfl, hq, H11⟩
    obtain ⟨R4, le4, H11f, hr⟩ := freezeBB H11
    have HQ := Hid.mk' hq
    replace hT := le4.blk _ _ hT
    replace leA := leA.trans le4
    replace HR := Hid.mk' (HR.out.le le4)
    replace HM := Hid.mk' (HM.out.le le4)
    obtain ⟨aa, ca, rfl⟩ := hr.form
    have HA := Hid.mk' hr
    obtain ⟨N, hN⟩ : ∃ N, N = q.length := ⟨_, rfl⟩
    have HN2 := Hid.mk' hN
    have hN9 : N ≤ 40 := by
      have h := congrArg List.length hq
      rw [List.length_map, putC_len, textC_len] at h
      have h1 := (checkC_ok HKC.out).2.2.2
      unfold partsN at h
      omega
    rw [← hN]
    clear H10 H11 hr hq hN le4
    go_wp2_with fail
    refine (chRCheck_spec H11f HR.out HSZ.out).mono ?_
    rintro e w12 ⟨rfl, H12⟩
    rw [HKC.out]
    clear H11f
    go_wp2_with fail
    refine (check_spec H12 HR.out HSZ.out).mono ?_
    rintro e w13 ⟨rfl, H13⟩
    rw [HKC.out]
    clear H12
    have HAN : Hid (Rd R4.cell? 1 (.slice aa N ca) N (q.map Prod.fst)) := Hid.mk' (by rw [HN2.out]; exact HA.out.fst)
    have HMN : Hid (Rd R4.cell? 1 (.slice am K cm) K (mo.map Prod.fst)) := Hid.mk' (by rw [HKN.out]; exact HM.out.fst)
    have hK5 : K ≤ 5 := by omega
    clear h5
    go_wp2_with (with_reducible refine stop_append ?_)
    have H14 := emptySecs H13
    refine Hold.go (wpList_append rfl _ _ rfl undSecs infoBytes rfl (by decide) rfl rfl H14 (Rd.world HAN.out H14) (fst_one HA.out.2) (by simp only [maxLen]; omega) (by omega) ?_)
    intro v15 w15 H15
    clear H13 H14
    go_wp2_with (with_reducible refine stop_append ?_)
    refine Hold.go (wpList_append rfl _ _ rfl undSecs infoBytes rfl (by decide) rfl rfl H15 (Rd.world HMN.out H15) (fst_one HM.out.2) (by simp only [maxLen]; omega) (by omega) ?_)
    intro v16 w16 H16
    clear H15
    obtain ⟨R5, le5, H17, hr17⟩ := H16.freezeRow
    have hBB : RdBB R5.cell? v16 (q ++ mo) := by
      refine ⟨?_, fun y hy => ?_⟩
      · rw [List.nil_append, Nat.zero_add, HN2.out, HKN.out] at hr17
        rw [List.length_append, List.map_append]
        exact hr17
      · rcases List.mem_append.1 hy with h | h
        · exact Rd.le (HA.out.2 y h) le5
        · exact Rd.le (HM.out.2 y h) le5
    have hql : (q ++ mo).length ≤ 50 := by rw [List.length_append, ← HN2.out, ← HKN.out]; omega
    replace hT := le5.blk _ _ hT
    replace leA := leA.trans le5
    replace HR := Hid.mk' (HR.out.le le5)
    replace HA := Hid.mk' (HA.out.le le5)
    have HBB := Hid.mk' hBB
    have HQL := Hid.mk' hql
    clear H16 hr17 hBB hql le5 HAN HMN
    go_wp2_with fail
    refine entGet_spec H17 celly_emp hT HBB.out HQL.out ?_
    intro R7 o7 M ok w18 le7 hG hMR hMZ H18
    have hpre : putC (conC cs) <+: (q ++ mo).map Prod.snd := by
      rw [List.map_append, show q.map Prod.snd = putC (conC cs) from HQ.out]; exact ⟨_, rfl⟩
    have hG' : ok = true ∧ checkC (conC M) = 0 ∧ putC (conC M) <+: (q ++ mo).map Prod.snd := by
      rcases hG with h | ⟨_, _, h4⟩
      · exact h
      · exact absurd hpre (h4 _ HKC.out)
    obtain ⟨rfl, h1, h2⟩ := hG'
    have hcM := putC_one h1 HKC.out h2 hpre
    have HSM : Hid (decide (conC M = conC cs) = true) := Hid.mk' (decide_eq_true hcM)
    have HMR := Hid.mk' hMR
    have HMZ := Hid.mk' hMZ
    obtain ⟨a7, c7, rfl⟩ := hMR.form
    replace leA := leA.trans le7
    replace HR := Hid.mk' (HR.out.le le7)
    replace HA := Hid.mk' (HA.out.le le7)
    clear H17 hG hpre h1 h2 hcM hMR hMZ HM le7 hT
    go_wp2_with fail
    refine (chRPut_ok H18 HR.out HSZ.out HKC.out).mono ?_
    rintro e w19 ⟨o19, q19, rfl, hq19, H19⟩
    unfold rowsR at H19
    obtain ⟨R20, le20, H20, hr20⟩ := freezeBB H19
    obtain ⟨a20, c20, rfl⟩ := hr20.form
    have HQ19 := Hid.mk' hq19
    have HR20 := Hid.mk' hr20
    replace leA := leA.trans le20
    clear H18 H19 hq19 hr20
    go_wp2_with fail
    refine (same04_spec H20 (RdBB.le (by have h := HA.out; rw [← HN2.out] at h; exact h) le20) HR20.out (putC_lens HQ.out) (putC_lens HQ19.out)).mono ?_
    rintro e w21 ⟨rfl, H21⟩
    rw [show decide (List.map Prod.snd q = List.map Prod.snd q19) = true from decide_eq_true (HQ.out.trans HQ19.out.symm)]
    clear H20
    go_wp2_with fail
    refine (chSame_spec H21 (HMR.out.le le20) (HR.out.le le20) HMZ.out HSZ.out).mono ?_
    rintro e w22 ⟨rfl, H22⟩
    rw [HSM.out]
    clear H21
    go_wp2_with fail
    refine (alive18 H22 celly_emp).mono ?_
    rintro e w99 ⟨rfl, H99⟩
    go_wp2_with fail
    go_ret
    exact ⟨rfl, hg ▸ H99.toBelow (leA)⟩
  · have HK0 := Hid.mk' hk0
    have t1 : (kc != 0) = true := by simpa using hk0
    clear hk0
    go_wp2_with fail
    refine (entPut_bad H10 HR.out HSZ.out (by rw [HKC.out]; exact HK0.out)).mono ?_
    rintro e w11 ⟨rfl, H11⟩
    rw [HKC.out]
    clear H10
    go_wp2_with fail
    refine (chRCheck_spec H11 HR.out HSZ.out).mono ?_
    rintro e w12 ⟨rfl, H12⟩
    rw [HKC.out]
    clear H11
    go_wp2_with fail
    refine (check_spec H12 HR.out HSZ.out).mono ?_
    rintro e w13 ⟨rfl, H13⟩
    rw [HKC.out]
    clear H12
    go_wp2_with fail
    refine (alive18 H13 celly_emp).mono ?_
    rintro e w99 ⟨rfl, H99⟩
    go_wp2_with fail
    go_ret
    exact ⟨rfl, hg ▸ H99.toBelow (leA)⟩
end Sh
/- How changes read as an argument. -/
set_option linter.unusedVariables false
set_option linter.unusedSimpArgs false
namespace Sh
open Go Go.RowKit Go.Proofs
set_option maxRecDepth 100000 in
theorem read_ch {H : Type} {enc : TypeId × Value → H} {w : World} {base : Nat} {spare : Nat → Bool} {held : Bool} {fuel : Nat} {cs : List Value} {x : DataW H × List MemPlace} (h : DataW.trod enc Try.prog w base spare held fuel 169 cs = some x) :
    ∃ c : Ch, cs = c.cells ∧ RdB w.cell? c.v c.data := by
  obtain ⟨hl, n, hf⟩ := read_fields Try.underlying169 h
  have hl : cs.length = 2 := hl
  match cs, hl with
  | [c0, c1], _ =>
    obtain ⟨y0, h0⟩ := hf 0 _ rfl
    obtain ⟨y1, h1⟩ := hf 1 _ rfl
    obtain ⟨a0, e0, _⟩ := read_int Try.underlying3 h0
    obtain ⟨v1, a1, e1, g1⟩ := read_bytes Try.underlying22 Try.underlying5 (by kernel_rfl) h1
    obtain rfl : c0 = .int .i64 a0 := List.head_eq_of_cons_eq (show [c0] = [.int .i64 a0] from e0)
    obtain rfl : c1 = v1 := List.head_eq_of_cons_eq (show [c1] = [v1] from e1)
    exact ⟨⟨a0, c1, a1⟩, rfl, g1⟩
end Sh
/- EntryGets: the walk. -/
set_option linter.unusedVariables false
set_option linter.unusedSimpArgs false
namespace Sh
open Go Go.RowKit Go.Proofs
attribute [local go_sem ↓] Go.wp_at_zero Go.wp_at_succ
set_option maxHeartbeats 1000000
set_option maxRecDepth 100000

set_option maxHeartbeats 8000000
theorem entryGets_walk (W : World) {v : Value} {ss : List (Value × List UInt8)} (h1 : Rd W.cell? 1 v ss.length (ss.flatMap fun q => [q.1])) (h2 : ∀ q ∈ ss, RdB W.cell? q.1 q.2) :
    Calls Try.prog 14 #[v] W fun e w' => e = .returned (.bool true) ∧ Below W.heap.size W w' := by
  have hr : RdBB (Snap.of W).cell? v ss := secs_of h1 h2
  clear h1 h2
  obtain ⟨a, c, rfl⟩ := hr.form
  obtain ⟨N, hN⟩ : ∃ N, N = ss.length := ⟨_, rfl⟩
  have HR := Hid.mk' hr
  have HN := Hid.mk' hN
  have hmx := Rd.max hr.1
  unfold maxLen at hmx
  have hB := hr.bounds
  rw [← hN] at hmx hB ⊢
  obtain ⟨hB1, hB2⟩ := hB
  have H := Holds.start W
  obtain ⟨g0, hg⟩ : ∃ g0, W.heap.size = g0 := ⟨_, rfl⟩
  rw [hg]
  clear hr hN
  go_enter Try.func14, Try.ntmps14
  go_upto_region 1 with fail
  by_cases h12 : 40 < N
  · have t1 : decide ((40 : Int) < (N : Int)) = true := by simp; omega
    have t1n : decide (40 < N) = true := by simp; omega
    go_wp2_with fail
    refine (alive18 H celly_emp).mono ?_
    rintro e w99 ⟨rfl, H99⟩
    go_wp2_with fail
    go_ret
    exact ⟨rfl, hg ▸ H99.toBelow (Snap.le.refl _)⟩
  have t1 : decide ((40 : Int) < (N : Int)) = false := by simp; omega
  have t1n : decide (40 < N) = false := by simp; omega
  go_wp2_with fail
  go_loop [15] (fun i => ∃ j : Nat, i = .int .i64 j ∧ j ≤ N ∧ Hid (∀ k (h : k < ss.length), k < j → ss[k].2.length ≤ 100)) (fun i => N - (intOf i).toNat)
  case atStart => exact ⟨0, rfl, Nat.zero_le _, Hid.mk' (fun k _ h => absurd h (Nat.not_lt_zero k))⟩
  case round =>
    obtain ⟨j, rfl, hj, hA⟩ := hrel
    by_cases hlt : j < N
    · have d1 : decide ((j : Int) < (N : Int)) = true := by simp; omega
      have hjs : j < ss.length := by rw [← HN.out]; exact hlt
      obtain ⟨b2, o2, ha2, hc2, hq2⟩ := RdBB.at HR.out hjs
      subst ha2
      replace hc2 := H.cell hc2
      obtain ⟨v2, hv2⟩ : ∃ v, v = ss[j].1 := ⟨_, rfl⟩
      rw [← hv2] at hc2 hq2
      obtain ⟨av2, cv2, rfl⟩ := hq2.form
      obtain ⟨l2, hl2⟩ : ∃ l, l = ss[j].2.length := ⟨_, rfl⟩
      rw [← hl2] at hc2
      have HL2 := Hid.mk' hl2
      have i5 : (0 : Int) ≤ (j : Int) := by omega
      have i6 : (j : Int) < (N : Int) := by omega
      clear hv2 hl2 hq2
      by_cases h100 : 100 < l2
      · have t2 : decide ((100 : Int) < (l2 : Int)) = true := by simp; omega
        have t2n : decide (100 < l2) = true := by simp; omega
        go_wp2_with fail
        refine (alive18 H celly_emp).mono ?_
        rintro e w99 ⟨rfl, H99⟩
        go_wp2_with fail
        go_ret
        exact ⟨rfl, hg ▸ H99.toBelow (Snap.le.refl _)⟩
      have t2 : decide ((100 : Int) < (l2 : Int)) = false := by simp; omega
      have t2n : decide (100 < l2) = false := by simp; omega
      go_wp2_with fail
      go_round
      case rel =>
        refine ⟨j + 1, by go_num, hlt, Hid.mk' (fun k h h2 => ?_)⟩
        rcases Nat.lt_or_ge k j with h3 | h3
        · exact hA.out k h h3
        · obtain rfl : k = j := by omega
          rw [← HL2.out]; omega
      case measure => simp [intOf]; omega
    · have d1 : decide ((j : Int) < (N : Int)) = false := by simp; omega
      obtain rfl : j = N := by omega
      have HLN : Hid (∀ x ∈ ss, x.2.length ≤ 1000000) := Hid.mk' (fun x hx => by
        obtain ⟨k, hk, rfl⟩ := List.mem_iff_getElem.1 hx
        have := hA.out k hk (by rw [HN.out]; exact hk)
        omega)
      have HSL : Hid (ss.length ≤ 50) := Hid.mk' (by rw [← HN.out]; omega)
      have HRN : Hid (RdBB (Snap.of W).cell? (.slice a j c) ss) := Hid.mk' (by have h := HR.out; rw [← HN.out] at h; exact h)
      clear hA t1 t1n h12 d1 HR
      go_wp2_with fail
      refine (new_crc H).mono ?_
      rintro e w9 ⟨p, rfl, H9⟩
      obtain ⟨R3, le3, H10, hT⟩ := H9.freezeBlk
      have leA := le3
      clear H9 le3
      go_wp2_with fail
      refine entGet_spec H10 celly_emp hT (HRN.out.le leA) HSL.out ?_
      intro R5 o5 M ok w11 le5 hG hMR hMZ H11
      obtain ⟨a5, c5, rfl⟩ := hMR.form
      replace leA := leA.trans le5
      have HG := Hid.mk' hG
      have HMR := Hid.mk' hMR
      have HMZ := Hid.mk' hMZ
      clear H10 hT hG le5 hMR hMZ
      go_wp2_with fail
      refine (chRGet_spec H11 (HRN.out.le leA) HSL.out HLN.out).mono ?_
      rintro e w13 ⟨R7, o7, M2, ok2, rfl, le7, hG2, hMR2, hMZ2, H13⟩
      obtain ⟨a7, c7, rfl⟩ := hMR2.form
      replace leA := leA.trans le7
      replace HMR := Hid.mk' (HMR.out.le le7)
      have HG2 := Hid.mk' hG2
      have HMR2 := Hid.mk' hMR2
      have HMZ2 := Hid.mk' hMZ2
      obtain ⟨e1, e2⟩ := HG.out.one HG2.out
      have HE1 : Hid (decide (conC M = conC M2) = true) := Hid.mk' (decide_eq_true e1)
      subst e2
      clear H11 hG2 le7 hMR2 hMZ2 e1
      cases ok with
      | true =>
        have HD : Hid (decide (checkC (conC M) = 0 ∧ putC (conC M) <+: ss.map Prod.snd) = true) := Hid.mk' (decide_eq_true (by
          rcases HG.out with ⟨_, h2, h3⟩ | ⟨h, _⟩
          · exact ⟨h2, h3⟩
          · cases h))
        go_wp2_with fail
        refine (chRAre_spec H13 (HRN.out.le leA) HLN.out HMR.out HMZ.out).mono ?_
        rintro e w15 ⟨rfl, H15⟩
        rw [HD.out]
        clear H13
        go_wp2_with fail
        refine (chSame_spec H15 HMR.out HMR2.out HMZ.out HMZ2.out).mono ?_
        rintro e w16 ⟨rfl, H16⟩
        rw [HE1.out]
        clear H15
        go_wp2_with fail
        refine (alive18 H16 celly_emp).mono ?_
        rintro e w99 ⟨rfl, H99⟩
        go_wp2_with fail
        go_ret
        exact ⟨rfl, hg ▸ H99.toBelow (leA)⟩
      | false =>
        go_wp2_with fail
        refine (chSame_spec H13 HMR.out HMR2.out HMZ.out HMZ2.out).mono ?_
        rintro e w16 ⟨rfl, H16⟩
        rw [HE1.out]
        clear H13
        go_wp2_with fail
        refine (alive18 H16 celly_emp).mono ?_
        rintro e w99 ⟨rfl, H99⟩
        go_wp2_with fail
        go_ret
        exact ⟨rfl, hg ▸ H99.toBelow (leA)⟩
end Sh
