/- EntRAre EntGet MsgRRd EntRGet EntAlive: joined texts, each with its own sentence below. -/
import Derived.Test.YtmogagcffebbaaaEn16
import Derived.Test.YtmogagcffebbaaaEn13
import Derived.BigQuiet
import Derived.Test.YtmogagcffebbaaaEn8
import Derived.Test.YtmogagcffebbaaaEn3
import Derived.Test.YtmogagcffebbaaaEn10
/- sherdref18.Are, Same. -/
set_option linter.unusedVariables false
set_option linter.unusedSimpArgs false
namespace Sh
open Go Go.RowKit Go.Proofs
attribute [local go_sem ↓] Go.wp_at_zero Go.wp_at_succ
set_option maxHeartbeats 1000000
set_option maxRecDepth 100000

theorem putC_lens {E : List En} {q : List (Value × List UInt8)} (h : q.map Prod.snd = putC E) : ∀ x ∈ q, x.2.length ≤ 1000000 := by
  intro x hx
  have h1 : x.2 ∈ putC E := by rw [← h]; exact List.mem_map.2 ⟨x, hx, rfl⟩
  unfold putC at h1
  rcases List.mem_cons.1 h1 with h2 | h2
  · rw [h2]; exact Nat.le_trans (sealS_len_le _) (by decide)
  · obtain ⟨i, _, h3⟩ := List.mem_map.1 h2
    rw [← h3]; exact Nat.le_trans (sealS_len_le _) (by decide)
set_option maxHeartbeats 8000000
theorem chRAre_spec {w : World} {R : Snap} {L : Asrt} {v : Value} {ss : List (Value × List UInt8)} {u : Value} {cs : List Ch} (H : Holds w R L) (hv : RdBB R.cell? v ss) (hlen : ∀ x ∈ ss, x.2.length ≤ 1000000) (hr : RdC R.cell? u cs) (hz : SzC cs) :
    Calls Try.prog 71 #[v, u] w fun e w' => e = .returned (.bool (decide (checkC (conC cs) = 0 ∧ putC (conC cs) <+: ss.map Prod.snd))) ∧ Holds w' R L := by
  obtain ⟨y, hy⟩ : ∃ y, y = decide (checkC (conC cs) = 0 ∧ putC (conC cs) <+: ss.map Prod.snd) := ⟨_, rfl⟩
  rw [← hy]
  have HY := Hid.mk' hy
  have HR := Hid.mk' hr
  have HZ := Hid.mk' hz
  have HS := Hid.mk' hlen
  obtain ⟨a, ca, rfl⟩ := hv.form
  have hmx := (Rd.max hv.1)
  unfold maxLen at hmx
  have HV := Hid.mk' hv
  obtain ⟨n, hn⟩ : ∃ n, n = ss.length := ⟨_, rfl⟩
  have HN := Hid.mk' hn
  rw [← hn] at hmx ⊢
  obtain ⟨au, cu, rfl⟩ := hr.form
  obtain ⟨E, hE⟩ : ∃ E, E = conC cs := ⟨_, rfl⟩
  have HE := Hid.mk' hE
  rw [← hE] at HY
  obtain ⟨n2, hn2⟩ : ∃ n, n = cs.length := ⟨_, rfl⟩
  have HN2 := Hid.mk' hn2
  rw [← hn2]
  clear hv hn hy hlen hr hz hE hn2
  go_enter Try.func71, Try.ntmps71
  go_wp2_with fail
  refine (chRCheck_spec H (by have h := HR.out; rw [← HN2.out] at h; exact h) HZ.out).mono ?_
  rintro e w3 ⟨rfl, H3⟩
  rw [← HE.out]
  clear H
  obtain ⟨kc, hkc⟩ : ∃ kc, checkC E = kc := ⟨_, rfl⟩
  rw [hkc]
  have HKC := Hid.mk' hkc
  by_cases hk0 : ¬ kc = 0
  · have t1 : (kc != 0) = true := by simpa using hk0
    have HYY : Hid (y = false) := Hid.mk' (by rw [HY.out, decide_eq_false_iff_not, HKC.out]; rintro ⟨h, _⟩; exact hk0 h)
    clear hk0 hkc
    go_wp2_with fail
    go_ret
    exact ⟨ret_bool HYY.out.symm, H3⟩
  obtain rfl : kc = 0 := by omega
  clear hkc hk0
  go_wp2_with fail
  refine (chRPut_ok H3 (by have h := HR.out; rw [← HN2.out] at h; exact h) HZ.out (by rw [← HE.out]; exact HKC.out)).mono ?_
  rintro e w4 ⟨o, q, rfl, hq, H4⟩
  rw [← HE.out] at hq
  unfold rowsR at H4
  obtain ⟨R5, le5, H5, hqq⟩ := freezeBB H4
  obtain ⟨ao, co, rfl⟩ := hqq.form
  have hqm := Rd.max hqq.1
  unfold maxLen at hqm
  obtain ⟨m, hm⟩ : ∃ m, m = q.length := ⟨_, rfl⟩
  have HM := Hid.mk' hm
  have HQ := Hid.mk' hq
  have HQQ := Hid.mk' hqq
  have HPL : Hid ((putC E).length = m) := Hid.mk' (by rw [← hq, List.length_map, hm])
  have HT := Hid.mk' (putC_lens hq)
  have leA := le5
  replace HV := Hid.mk' (HV.out.le leA)
  rw [← hm] at hqm ⊢
  clear H3 H4 hqq hq hm
  by_cases hnm : n < m
  · have t1 : decide ((n : Int) < (m : Int)) = true := by simp; omega
    have t1n : decide (n < m) = true := by simp; omega
    have HYY : Hid (y = false) := Hid.mk' (by
      rw [HY.out, decide_eq_false_iff_not]
      rintro ⟨_, h⟩
      have := h.length_le
      rw [HPL.out, List.length_map, ← HN.out] at this
      omega)
    clear hnm
    go_wp2_with fail
    go_ret
    exact ⟨ret_bool HYY.out.symm, H5.weaken leA⟩
  · have t1 : decide ((n : Int) < (m : Int)) = false := by simp; omega
    have t1n : decide (n < m) = false := by simp; omega
    have hmn : m ≤ n := by omega
    clear hnm
    go_wp2_with fail
    go_loopw [6] (fun i wx => ∃ j : Nat, i = .int .i64 j ∧ j ≤ m ∧ Hid ((putC E).take j = (ss.map Prod.snd).take j) ∧ Holds wx R5 L) (fun i _ => m - (intOf i).toNat)
    case atStart => exact ⟨0, rfl, Nat.zero_le _, Hid.mk' rfl, H5⟩
    case round =>
      clear H5
      obtain ⟨j, rfl, hj, hA, H3⟩ := hrel
      by_cases hlt : j < m
      · have d1 : decide ((j : Int) < (m : Int)) = true := by simp; omega
        have hjs : j < ss.length := by rw [← HN.out]; omega
        have hjt : j < q.length := by rw [← HM.out]; exact hlt
        obtain ⟨b2, o2, ha2, hc2, hq2⟩ := RdBB.at HV.out hjs
        obtain ⟨b3, o3, ha3, hc3, hq3⟩ := RdBB.at HQQ.out hjt
        subst ha2 ha3
        replace hc2 := H3.cell hc2
        replace hc3 := H3.cell hc3
        have hl2 := HS.out _ (List.getElem_mem hjs)
        have hl3 := HT.out _ (List.getElem_mem hjt)
        have g2 : (ss.map Prod.snd)[j]? = some ss[j].2 := by rw [List.getElem?_map, List.getElem?_eq_getElem hjs]; rfl
        have g3 : (putC E)[j]? = some q[j].2 := by rw [← HQ.out, List.getElem?_map, List.getElem?_eq_getElem hjt]; rfl
        generalize ss[j] = x2 at *
        generalize q[j] = x3 at *
        obtain ⟨v2, l2⟩ := x2
        obtain ⟨v3, l3⟩ := x3
        simp only at hc2 hc3 hq2 hq3 hl2 hl3 g2 g3
        obtain ⟨av2, cv2, rfl⟩ := hq2.form
        obtain ⟨av3, cv3, rfl⟩ := hq3.form
        have hq := fun w' (h : Holds w' R5 L) => same_spec (Rd.world hq2 h) (Rd.world hq3 h) hl2 hl3
        have HSM := Hid.mk' hq
        have G2 := Hid.mk' g2
        have G3 := Hid.mk' g3
        have i1 : (0 : Int) ≤ (j : Int) := by omega
        have i2 : (j : Int) < (n : Int) := by omega
        have i3 : (j : Int) < (m : Int) := by omega
        have HH := Hid.mk' H3
        clear hq hq2 hq3 hl2 hl3 g2 g3 hjs hjt
        go_wp2_with fail
        go_quiet ((go_at_call 27; exact Calls.quiet_of (HSM.out _ (H3.drewN _))))
        by_cases hll : l2 = l3
        · rw [decide_eq_true hll]
          have HLL := Hid.mk' hll
          clear hll
          go_wp2_with fail
          go_roundw
          case rel =>
            refine ⟨j + 1, by go_num, hlt, Hid.mk' ?_, H3.drewN _⟩
            have e1 := List.take_add_one (l := putC E) (i := j)
            have e2 := List.take_add_one (l := ss.map Prod.snd) (i := j)
            rw [e1, e2, hA.out, G2.out, G3.out, HLL.out]
          case measure => simp [intOf]; omega
        · rw [decide_eq_false hll]
          have HYY : Hid (y = false) := Hid.mk' (by
            rw [HY.out, decide_eq_false_iff_not]
            rintro ⟨_, t, ht⟩
            have h := G3.out
            have h2 := G2.out
            rw [← ht, List.getElem?_append_left (by rw [HPL.out]; exact hlt), h] at h2
            exact hll (Option.some.inj h2).symm)
          clear hll
          go_wp2_with fail
          go_ret
          exact ⟨ret_bool HYY.out.symm, (H3.drewN _).weaken leA⟩
      · have d1 : decide ((j : Int) < (m : Int)) = false := by simp; omega
        obtain rfl : j = m := by omega
        have HYY : Hid (y = true) := Hid.mk' (by
          rw [HY.out, decide_eq_true_eq]
          refine ⟨HKC.out, ?_⟩
          have h := hA.out
          rw [List.take_of_length_le (by rw [HPL.out]; exact Nat.le_refl _)] at h
          rw [h]
          exact List.take_prefix _ _)
        go_wp2_with fail
        go_ret
        exact ⟨ret_bool HYY.out.symm, H3.weaken leA⟩
theorem chSame_spec {w : World} {R : Snap} {L : Asrt} {u v : Value} {cs ds : List Ch} (H : Holds w R L) (hu : RdC R.cell? u cs) (hv : RdC R.cell? v ds) (hs : SzC cs) (ht : SzC ds) :
    Calls Try.prog 69 #[u, v] w fun e w' => e = .returned (.bool (decide (conC cs = conC ds))) ∧ Holds w' R L := by
  obtain ⟨y, hy⟩ : ∃ y, y = decide (conC cs = conC ds) := ⟨_, rfl⟩
  rw [← hy]
  have HY := Hid.mk' hy
  obtain ⟨a, ca, rfl⟩ := hu.form
  obtain ⟨b, cb, rfl⟩ := hv.form
  have hmx := hs.1
  have HU := Hid.mk' hu
  have HV := Hid.mk' hv
  have HS := Hid.mk' hs.2
  have HT := Hid.mk' ht.2
  have hmy := ht.1
  obtain ⟨n, hn⟩ : ∃ n, n = cs.length := ⟨_, rfl⟩
  obtain ⟨m, hm⟩ : ∃ m, m = ds.length := ⟨_, rfl⟩
  have HN := Hid.mk' hn
  have HM := Hid.mk' hm
  rw [← hn] at hmx
  rw [← hm] at hmy
  rw [← hn, ← hm]
  clear hu hv hs ht hn hm hy
  by_cases hnm : n = m
  · subst hnm
    go_enter Try.func69, Try.ntmps69
    go_wp2_with fail
    go_loopw [5] (fun i wx => ∃ j : Nat, i = .int .i64 j ∧ j ≤ n ∧ Hid ((conC cs).take j = (conC ds).take j) ∧ Holds wx R L) (fun i _ => n - (intOf i).toNat)
    case atStart => exact ⟨0, rfl, Nat.zero_le _, Hid.mk' rfl, H⟩
    case round =>
      clear H
      obtain ⟨j, rfl, hj, hA, H3⟩ := hrel
      by_cases hlt : j < n
      · have d1 : decide ((j : Int) < (n : Int)) = true := by simp; omega
        have hjs : j < cs.length := by rw [← HN.out]; exact hlt
        have hjt : j < ds.length := by rw [← HM.out]; exact hlt
        obtain ⟨b2, o2, ha2, hc2, hd2, hq2⟩ := RdC.at HU.out hjs
        obtain ⟨b3, o3, ha3, hc3, hd3, hq3⟩ := RdC.at HV.out hjt
        subst ha2 ha3
        replace hc2 := H3.cell hc2
        replace hc3 := H3.cell hc3
        replace hd2 := H3.cell hd2
        replace hd3 := H3.cell hd3
        have hl2 := HS.out _ (List.getElem_mem hjs)
        have hl3 := HT.out _ (List.getElem_mem hjt)
        have g2 := conC_get hjs
        have g3 := conC_get hjt
        generalize cs[j] = x2 at *
        generalize ds[j] = x3 at *
        obtain ⟨p2, v2, l2⟩ := x2
        obtain ⟨p3, v3, l3⟩ := x3
        simp only at hc2 hc3 hd2 hd3 hq2 hq3 hl2 hl3 g2 g3
        obtain ⟨av2, cv2, rfl⟩ := hq2.form
        obtain ⟨av3, cv3, rfl⟩ := hq3.form
        have hq := fun w' (h : Holds w' R L) => same_spec (Rd.world hq2 h) (Rd.world hq3 h) (by omega) (by omega)
        have HQ := Hid.mk' hq
        have G2 := Hid.mk' g2
        have G3 := Hid.mk' g3
        have i1 : (0 : Int) ≤ (j : Int) := by omega
        have i2 : (j : Int) < (n : Int) := by omega
        have HH := Hid.mk' H3
        clear hq hq2 hq3 hl2 hl3 g2 g3 hjs hjt
        by_cases hpp : p2 = p3
        · have t2 : (p2 != p3) = false := by simpa using hpp
          have HPP := Hid.mk' hpp
          clear hpp
          go_wp2_with fail
          go_quiet ((go_at_call 27; exact Calls.quiet_of (HQ.out _ (H3.drewN _))))
          by_cases hll : l2 = l3
          · rw [decide_eq_true hll]
            have HLL := Hid.mk' hll
            clear hll
            go_wp2_with fail
            go_roundw
            case rel =>
              refine ⟨j + 1, by go_num, hlt, Hid.mk' ?_, H3.drewN _⟩
              have e1 := List.take_add_one (l := conC cs) (i := j)
              have e2 := List.take_add_one (l := conC ds) (i := j)
              rw [e1, e2, hA.out, G2.out, G3.out, HLL.out, HPP.out]
            case measure => simp [intOf]; omega
          · rw [decide_eq_false hll]
            have HYY : Hid (y = false) := Hid.mk' (by
              rw [HY.out, decide_eq_false_iff_not]
              intro h
              have h2 := G2.out
              rw [h, G3.out] at h2
              have h3 := Option.some.inj h2
              simp only [Prod.mk.injEq] at h3
              exact hll h3.2.symm)
            clear hll
            go_wp2_with fail
            go_ret
            exact ⟨ret_bool HYY.out.symm, H3.drewN _⟩
        · have t2 : (p2 != p3) = true := by simpa using hpp
          have HYY : Hid (y = false) := Hid.mk' (by
            rw [HY.out, decide_eq_false_iff_not]
            intro h
            have h2 := G2.out
            rw [h, G3.out] at h2
            have h3 := Option.some.inj h2
            simp only [Prod.mk.injEq] at h3
            exact hpp h3.1.symm)
          have HPP := Hid.mk' hpp
          clear hpp
          go_wp2_with fail
          go_quiet (fail)
          go_wp2_with fail
          go_ret
          exact ⟨ret_bool HYY.out.symm, H3.drewN _⟩
      · have d1 : decide ((j : Int) < (n : Int)) = false := by simp; omega
        have hyy : y = true := by
          rw [HY.out, decide_eq_true_eq]
          have h := hA.out
          rwa [List.take_of_length_le (by rw [conC_len, ← HN.out]; omega), List.take_of_length_le (by rw [conC_len, ← HM.out]; omega)] at h
        have HYY := Hid.mk' hyy
        clear hyy
        go_wp2_with fail
        go_ret
        exact ⟨ret_bool HYY.out.symm, H3⟩
  · have t0 : ((n : Int) != (m : Int)) = true := by simp; omega
    have hyy : y = false := by
      rw [HY.out, decide_eq_false_iff_not]
      intro h
      have := congrArg List.length h
      rw [conC_len, conC_len, ← HN.out, ← HM.out] at this
      exact hnm this
    have HYY := Hid.mk' hyy
    clear hyy hnm
    go_enter Try.func69, Try.ntmps69
    go_wp2_with fail
    go_ret
    exact ⟨ret_bool HYY.out.symm, H⟩
end Sh
/- entry.Get. -/
set_option linter.unusedVariables false
set_option linter.unusedSimpArgs false
namespace Sh
open Go Go.RowKit Go.Proofs
attribute [local go_sem ↓] Go.wp_at_zero Go.wp_at_succ
set_option maxHeartbeats 1000000
set_option maxRecDepth 100000

set_option maxHeartbeats 8000000
theorem entGet_spec {w : World} {R : Snap} {L : Asrt} {p : Nat} {v : Value} {ss : List (Value × List UInt8)} {PO : Ending → World → Prop} (H : Holds w R L) (hcy : L.celly) (hT : R.blk p = some (.cells (rowC 256) tabT (0, 0))) (hr : RdBB R.cell? v ss) (hn : ss.length ≤ 50)
    (k : ∀ R' (o : Value) (cs : List Ch) (ok : Bool) w', R.le R' → GotC (ss.map Prod.snd) (conC cs) ok → RdC R'.cell? o cs → SzC cs → Holds w' R' L → PO (.returned (.tuple #[o, .bool ok])) w') :
    Calls Try.prog 66 #[.pointer (some ⟨p, 0, none⟩), v] w PO := by
  obtain ⟨bss, hbss⟩ : ∃ bss, bss = ss.map Prod.snd := ⟨_, rfl⟩
  rw [← hbss] at k
  have HK := Hid.mk' k
  have HF : Hid (∀ (R' : Snap) (w' : World), R.le R' → (∀ E, checkC E = 0 → ¬ putC E <+: bss) → Holds w' R' L → PO (.returned (.tuple #[.slice none 0 0, .bool false])) w') := Hid.mk' (fun R' w' h1 h2 h3 =>
    k R' (.slice none 0 0) [] false w' h1 (.inr ⟨rfl, rfl, h2⟩) ⟨Rd.nil, fun _ h => by cases h⟩ ⟨Nat.zero_le _, fun _ h => by cases h⟩ h3)
  clear k
  obtain ⟨a, c, rfl⟩ := hr.form
  have hB := hr.bounds
  obtain ⟨N, hN⟩ : ∃ N, N = ss.length := ⟨_, rfl⟩
  have HR := Hid.mk' hr
  have HN := Hid.mk' hN
  have HBS := Hid.mk' hbss
  rw [← hN] at hB hn ⊢
  obtain ⟨hB1, hB2⟩ := hB
  clear hr hN hbss
  go_enter Try.func66, Try.ntmps66
  go_upto_region 1 with fail
  by_cases h0 : N = 0
  · subst h0
    go_wp2_with fail
    refine HF.out R _ (Snap.le.refl _) (fun E h1 h2 => ?_) H
    have := h2.length_le
    rw [putC_len, HBS.out, List.length_map, ← HN.out] at this
    omega
  have t0 : ((N : Int) == 0) = false := by rw [beq_eq_false_iff_ne]; omega
  obtain ⟨⟨v0, b0⟩, tl, rfl⟩ : ∃ x tl, ss = x :: tl := by
    cases ss with
    | nil => exact absurd HN.out h0
    | cons x tl => exact ⟨x, tl, rfl⟩
  obtain ⟨b1, o1, ha, hc, hq⟩ := RdBB.at HR.out (j := 0) (by simp)
  subst ha
  replace hc : R.cell? ⟨b1, o1, none⟩ = some v0 := hc
  replace hq : RdB R.cell? v0 b0 := hq
  replace hc := H.cell hc
  obtain ⟨a0, c0, rfl⟩ := hq.form
  have HQ := Hid.mk' hq
  have i1 : (0 : Int) < (N : Int) := by omega
  have i2 : 0 < N := by omega
  have htl : tl.length = N - 1 := by have := HN.out; simp at this; omega
  have HTL := Hid.mk' htl
  have hbs0 : bss = b0 :: tl.map Prod.snd := by rw [HBS.out]; rfl
  have HB0 := Hid.mk' hbs0
  clear hq h0 htl hbs0
  go_wp2_with fail
  refine (sopen_spec H hT HQ.out).mono ?_
  rintro e w2 ⟨o2, rfl, H2⟩
  clear H hc
  obtain ⟨ok, hok⟩ : ∃ ok, openOk b0 = ok := ⟨_, rfl⟩
  have HOK := Hid.mk' hok
  rw [hok]
  clear hok
  cases ok with
  | false =>
    go_wp2_with fail
    refine HF.out R _ (Snap.le.refl _) (fun E h1 h2 => ?_) H2.drop
    rw [HB0.out] at h2
    obtain ⟨s0, rest, e, e2, _⟩ := putC_says h1 h2
    obtain ⟨rfl, _⟩ := List.cons.inj e
    rw [HOK.out] at e2; cases e2
  | true =>
  obtain ⟨R3, le3, H3, hr3⟩ := H2.freezeRow
  obtain ⟨pl, hpl⟩ : ∃ pl, pl = openP b0 := ⟨_, rfl⟩
  have hl60 := openOk_len HOK.out
  rw [← hpl] at hl60
  replace hr3 : RdB R3.cell? o2 pl := by rw [hpl]; exact hr3
  obtain ⟨a2, c2, rfl⟩ := hr3.form
  have hc60 := (Rd.bounds hr3).1
  rw [hl60] at hc60
  have hsub := RdB.sub hr3 1 60 c2 (by decide) (by omega) (by omega) (Nat.le_refl _)
  rw [List.take_of_length_le (by rw [List.length_drop]; omega)] at hsub
  have HSUB := Hid.mk' hsub
  have HPL := Hid.mk' hpl
  have HL60 := Hid.mk' hl60
  simp only [hl60]
  clear H2 hpl hr3 hl60 hsub
  have hT3 := le3.blk _ _ hT
  go_wp2_with fail
  refine (read_spec H3 HSUB.out).mono ?_
  rintro e w4 ⟨p4, rfl, H4⟩
  clear H3
  go_wp2_with fail
  refine (rd_num (s := (pl.drop 1, false)) (k := 1) (by decide) H4 HSUB.out).mono ?_
  rintro e w5 ⟨v5, rfl, H5, hr5⟩
  obtain ⟨q1, ha⟩ : ∃ a, a = pNum 1 (pl.drop 1, false) := ⟨_, rfl⟩
  have hn255 : q1.1 < 256 := by rw [ha]; exact pNum1_lt _
  rw [← ha] at H5 hr5 ⊢
  have Q1 := Hid.mk' ha
  clear H4 ha
  go_wp2_with fail
  refine (rd_num (s := q1.2) (k := 2) (by decide) H5 hr5).mono ?_
  rintro e w6 ⟨v6, rfl, H6, hr6⟩
  have H7 := H6.drop
  clear H5 H6 hr5 hr6
  obtain ⟨n, hnn⟩ : ∃ n, n = q1.1 := ⟨_, rfl⟩
  obtain ⟨lg, hlg⟩ : ∃ n, n = (pNum 2 q1.2).1 := ⟨_, rfl⟩
  have hlg9 : lg < 65536 := by rw [hlg]; exact pNum2_lt _
  rw [← hnn, ← hlg]
  rw [← hnn] at hn255
  -- whoever begins the sectors says so
  have hsays : ∀ E, checkC E = 0 → putC E <+: bss → n = partsN (textC E).length ∧ lg = (textC E).length ∧ n ≤ tl.length ∧ ∃ k, gathC ((tl.map Prod.snd).take n) = textC E ++ List.replicate k 0 := fun E h1 h2 => by
    rw [HB0.out] at h2
    obtain ⟨s0, rest, e, e2, e3, e4, e5, _⟩ := putC_says h1 h2
    obtain ⟨rfl, rfl⟩ := List.cons.inj e
    rw [← HPL.out] at e3
    obtain ⟨c1, c2⟩ := headC_parse (by rw [textC_len]; exact (checkC_ok h1).2.2.2) e3
    rw [← Q1.out, ← hnn] at c1
    rw [← Q1.out, ← hlg] at c2
    rw [← c1] at e4 e5
    refine ⟨c1, c2, by simpa using e4, e5⟩
  have HSY := Hid.mk' hsays
  clear hsays hnn hlg
  by_cases hgt : N ≤ n
  · have t1 : decide ((N : Int) ≤ (n : Int)) = true := by simp; omega
    have t1n : decide (N ≤ n) = true := by simp; omega
    go_wp2_with fail
    exact HF.out R3 _ le3 (fun E h1 h2 => by have := (HSY.out E h1 h2).2.2.1; rw [HTL.out] at this; omega) H7
  have t1 : decide ((N : Int) ≤ (n : Int)) = false := by simp; omega
  have t1n : decide (N ≤ n) = false := by simp; omega
  obtain ⟨n1, hn1⟩ : ∃ n1, n1 = n + 1 := ⟨_, rfl⟩
  have hn1i : (n : Int) + 1 = (n1 : Int) := by omega
  have hn1m : n1 - 1 = n := by omega
  have hsub := RdBB.sub HR.out 1 n1 c (by omega) (by have := HN.out; omega) (by omega) (Nat.le_refl _)
  rw [hn1m] at hsub
  have hsb : (((((Value.slice a0 b0.length c0, b0) : Value × List UInt8) :: tl).drop 1).take n).map Prod.snd = (tl.map Prod.snd).take n := by
    rw [List.drop_one, List.tail_cons, List.map_take]
  have hsl : (((((Value.slice a0 b0.length c0, b0) : Value × List UInt8) :: tl).drop 1).take n).length ≤ 1000 := by
    rw [List.length_take]; omega
  have i3 : (n1 : Int) ≤ (c : Int) := by omega
  have i4 : (1 : Int) ≤ (n1 : Int) := by omega
  have HSUB2 := Hid.mk' (hsub.le le3)
  have HSB := Hid.mk' hsb
  have HSL := Hid.mk' hsl
  have HN1 := Hid.mk' hn1
  clear hsb hsl hsub hn1
  go_wp2_with fail
  refine (gather_spec H7 hT3 HSUB2.out HSL.out).mono ?_
  rintro e w8 ⟨o8, rfl, H8⟩
  rw [HSB.out] at H8
  obtain ⟨gb, hgb⟩ : ∃ gb, gb = gathC ((tl.map Prod.snd).take n) := ⟨_, rfl⟩
  rw [← hgb] at H8
  have hgl : gb.length ≤ 2850 := by
    have h1 := gathC_len ((tl.map Prod.snd).take n)
    rw [← hgb] at h1
    have h2 : ((tl.map Prod.snd).take n).length ≤ n := by rw [List.length_take]; omega
    have h3 : 58 * ((tl.map Prod.snd).take n).length ≤ 58 * n := Nat.mul_le_mul_left _ h2
    omega
  obtain ⟨R9, le9, H9, hr9⟩ := H8.freezeRow
  obtain ⟨a9, c9, rfl⟩ := hr9.form
  obtain ⟨gl, hgl2⟩ : ∃ n, n = gb.length := ⟨_, rfl⟩
  have HGB := Hid.mk' hgb
  have HGL := Hid.mk' hgl2
  have hB9 := (Rd.bounds hr9).1
  have HR9 := Hid.mk' hr9
  rw [← hgl2] at hgl hB9 ⊢
  have leA := le3.trans le9
  have hT9 := le9.blk _ _ hT3
  clear H7 H8 hr9 hgb hgl2 HSUB2 HSB HSL
  by_cases hlong : gl < lg
  · have t2 : decide ((gl : Int) < (lg : Int)) = true := by simp; omega
    have t2n : decide (gl < lg) = true := by simp; omega
    go_wp2_with fail
    exact HF.out R9 _ leA (fun E h1 h2 => by
      obtain ⟨_, h3, _, k, h4⟩ := HSY.out E h1 h2
      have h5 := congrArg List.length h4
      rw [← HGB.out, ← HGL.out, List.length_append] at h5
      omega) H9
  have t2 : decide ((gl : Int) < (lg : Int)) = false := by simp; omega
  have t2n : decide (gl < lg) = false := by simp; omega
  obtain ⟨tb, htb⟩ : ∃ tb, tb = gb.take lg := ⟨_, rfl⟩
  have htl2 : tb.length = lg := by rw [htb, List.length_take, ← HGL.out]; omega
  have hrt : RdB R9.cell? (.slice a9 lg c9) tb := by rw [htb]; exact RdB.pre HR9.out lg (by rw [← HGL.out]; omega)
  have HRT := Hid.mk' hrt
  have htb9 : tb.length ≤ 2950 := by omega
  have HTB9 := Hid.mk' htb9
  have HSZ : Hid (∀ E, checkC E = 0 → putC E <+: bss → n = partsN (textC E).length ∧ chs tb = (E, ([], false))) := Hid.mk' (fun E h1 h2 => by
    obtain ⟨h3, h4, _, k, h5⟩ := HSY.out E h1 h2
    refine ⟨h3, ?_⟩
    rw [← HGB.out] at h5
    have h6 : tb = textC E := by rw [htb, h5, h4, List.take_left]
    have h7 := chs_text h1 []
    rw [List.append_nil] at h7
    rw [h6, h7])
  have k1 : (0 : Int) ≤ (lg : Int) := by omega
  have k2 : (lg : Int) ≤ (c9 : Int) := by omega
  clear htb htl2 hrt htb9 HR9 HGB HGL HSY
  go_wp2_with fail
  refine (changes_spec H9 HRT.out HTB9.out).mono ?_
  rintro e w10 ⟨R10, o10, cs, le10, rfl, hrc, hcc, hcz, H10⟩
  obtain ⟨ac, cc, rfl⟩ := hrc.form
  obtain ⟨cl, hcl⟩ : ∃ n, n = cs.length := ⟨_, rfl⟩
  have HRC := Hid.mk' hrc
  have HCC := Hid.mk' hcc
  have HCZ := Hid.mk' hcz
  have HCL := Hid.mk' hcl
  obtain ⟨dn, hdn⟩ : ∃ x, (!(chs tb).2.2 && decide ((chs tb).2.1.length = 0)) = x := ⟨_, rfl⟩
  rw [hdn, ← hcl]
  have HDN := Hid.mk' hdn
  replace leA := leA.trans le10
  have hT10 := le10.blk _ _ hT9
  clear H9 hrc hcc hcz hcl hdn
  cases dn with
  | false =>
    go_wp2_with fail
    exact HF.out R10 _ leA (fun E h1 h2 => by
      have h3 := HDN.out
      rw [(HSZ.out E h1 h2).2] at h3
      cases h3) H10
  | true =>
  have HSE : Hid (∀ E, checkC E = 0 → putC E <+: bss → conC cs = E ∧ n1 = (putC E).length) := Hid.mk' (fun E h1 h2 => by
    obtain ⟨h3, h4⟩ := HSZ.out E h1 h2
    refine ⟨by rw [HCC.out, h4], ?_⟩
    rw [putC_len, HN1.out, h3]; omega)
  obtain ⟨kc, hkc⟩ : ∃ kc, checkC (conC cs) = kc := ⟨_, rfl⟩
  have HKC := Hid.mk' hkc
  clear HSZ HDN HCC
  by_cases hk0 : kc = 0
  · subst hk0
    clear hkc
    go_wp2_with fail
    refine (entPut_ok H10 hcy hT10 (by have h := HRC.out; rw [← HCL.out] at h; exact h) HCZ.out HKC.out).mono ?_
    rintro e w11 ⟨o, q, rfl, hq, H11⟩
    obtain ⟨R12, le12, H12, hqq⟩ := freezeBB H11
    obtain ⟨ao, co, rfl⟩ := hqq.form
    obtain ⟨G, hG⟩ : ∃ G, G = q.length := ⟨_, rfl⟩
    have hpl : (putC (conC cs)).length = G := by rw [← hq, List.length_map, hG]
    have hG9 : G ≤ 100 := by
      have h1 := (checkC_ok HKC.out).2.2.2
      rw [putC_len, textC_len] at hpl
      unfold partsN at hpl; omega
    have HQQ := Hid.mk' hqq
    have HQ2 := Hid.mk' hq
    have HG := Hid.mk' hG
    have HPL2 := Hid.mk' hpl
    simp only [← hG]
    replace leA := leA.trans le12
    clear H10 H11 hqq hq hG hpl
    by_cases hGn : G = n1
    · have t3 : ((G : Int) != (n1 : Int)) = false := by simp; omega
      have HGN := Hid.mk' hGn
      clear hGn
      go_wp2_with fail
      go_loop [77] (fun i => ∃ j : Nat, i = .int .i64 j ∧ j ≤ G ∧ Hid (∀ k, k < j → (putC (conC cs))[k]? = bss[k]?)) (fun i => G - (intOf i).toNat)
      case atStart => exact ⟨0, rfl, Nat.zero_le _, Hid.mk' (fun k h => absurd h (Nat.not_lt_zero k))⟩
      case round =>
        obtain ⟨j, rfl, hj, hA⟩ := hrel
        by_cases hlt : j < G
        · have d1 : decide ((j : Int) < (G : Int)) = true := by simp; omega
          have hjq : j < q.length := by rw [← HG.out]; exact hlt
          obtain ⟨b2, o2, ha2, hc2, hq2⟩ := RdBB.at HQQ.out hjq
          subst ha2
          have hjs : j < (((Value.slice a0 b0.length c0, b0) : Value × List UInt8) :: tl).length := by rw [← HN.out]; have := HGN.out; have := HN1.out; omega
          obtain ⟨b3, o3, ha3, hc3, hq3⟩ := RdBB.at (HR.out.le leA) hjs
          simp only [Option.some.injEq, Addr.mk.injEq, and_true] at ha3
          obtain ⟨rfl, rfl⟩ := ha3
          have g2 : (putC (conC cs))[j]? = some q[j].2 := by rw [← HQ2.out, List.getElem?_map, List.getElem?_eq_getElem hjq]; rfl
          have g3 : bss[j]? = some ((((Value.slice a0 b0.length c0, b0) : Value × List UInt8) :: tl)[j]).2 := by rw [HBS.out, List.getElem?_map, List.getElem?_eq_getElem hjs]; rfl
          generalize q[j] = x2 at *
          generalize ((((Value.slice a0 b0.length c0, b0) : Value × List UInt8) :: tl)[j]) = x3 at *
          obtain ⟨v2, l2⟩ := x2
          obtain ⟨v3, l3⟩ := x3
          simp only at hc2 hc3 hq2 hq3 g2 g3
          replace hc2 := H12.cell hc2
          replace hc3 := H12.cell hc3
          obtain ⟨av2, cv2, rfl⟩ := hq2.form
          obtain ⟨av3, cv3, rfl⟩ := hq3.form
          have HE := Hid.mk' (bytesEqual_spec (Rd.world hq2 H12) (Rd.world hq3 H12))
          have G2 := Hid.mk' g2
          have G3 := Hid.mk' g3
          have i5 : (0 : Int) ≤ (j : Int) := by omega
          have i6 : (j : Int) < (G : Int) := by omega
          have i7 : (j : Int) < (N : Int) := by have := HGN.out; have := HN1.out; omega
          clear g2 g3 hq2 hq3 hjs hjq
          go_wp2_with fail
          refine HE.out.mono ?_
          rintro e w13 ⟨rfl, rfl⟩
          by_cases hll : l2 = l3
          · rw [decide_eq_true hll]
            have HLL := Hid.mk' hll
            clear hll
            go_wp2_with fail
            go_round
            case rel =>
              refine ⟨j + 1, by go_num, hlt, Hid.mk' (fun k h2 => ?_)⟩
              rcases Nat.lt_or_ge k j with h3 | h3
              · exact hA.out k h3
              · obtain rfl : k = j := by omega
                rw [G2.out, G3.out, HLL.out]
            case measure => simp [intOf]; omega
          · rw [decide_eq_false hll]
            have HLL := Hid.mk' hll
            clear hll
            go_wp2_with fail
            exact HF.out R12 _ leA (fun E h1 h2 => by
              have h3 := (HSE.out E h1 h2).1
              rw [← h3] at h2
              obtain ⟨t, ht⟩ := h2
              have h4 : bss[j]? = (putC (conC cs))[j]? := by rw [← ht, List.getElem?_append_left (by rw [HPL2.out]; exact hlt)]
              rw [G2.out, G3.out] at h4
              exact HLL.out (Option.some.inj h4).symm) H12
        · have d1 : decide ((j : Int) < (G : Int)) = false := by simp; omega
          obtain rfl : j = G := by omega
          have hpre : putC (conC cs) <+: bss := by
            rw [List.prefix_iff_eq_take]
            apply List.ext_getElem?
            intro k
            rw [List.getElem?_take, HPL2.out]
            split
            · exact hA.out k (by assumption)
            · rw [List.getElem?_eq_none]; rw [HPL2.out]; omega
          have HPRE := Hid.mk' hpre
          clear hpre hA
          go_wp2_with fail
          exact HK.out R12 _ cs true _ leA (.inl ⟨rfl, HKC.out, HPRE.out⟩) (by have h := HRC.out.le le12; rw [← HCL.out] at h; exact h) HCZ.out H12
    · have t3 : ((G : Int) != (n1 : Int)) = true := by simp; omega
      have HGN := Hid.mk' hGn
      clear hGn
      go_wp2_with fail
      exact HF.out R12 _ leA (fun E h1 h2 => by
        obtain ⟨h3, h4⟩ := HSE.out E h1 h2
        rw [← h3, HPL2.out] at h4
        exact HGN.out h4.symm) H12
  · have HK0 := Hid.mk' hk0
    have t3 : (kc != 0) = true := by simpa using hk0
    go_wp2_with fail
    refine (entPut_bad H10 (by have h := HRC.out; rw [← HCL.out] at h; exact h) HCZ.out (by rw [HKC.out]; exact HK0.out)).mono ?_
    rintro e w11 ⟨rfl, H11⟩
    rw [HKC.out]
    clear H10 hk0 hkc
    go_wp2_with fail
    exact HF.out R10 _ leA (fun E h1 h2 => by
      have h3 := (HSE.out E h1 h2).1
      have h4 := HKC.out
      rw [h3, h1] at h4
      exact HK0.out h4.symm) H11
end Sh
/- The packer's reference: what it reads by, over the bytes that are left. -/
set_option linter.unusedVariables false
set_option linter.unusedSimpArgs false
namespace Sh
open Go Go.RowKit Go.Proofs
attribute [local go_sem ↓] Go.wp_at_zero Go.wp_at_succ
set_option maxHeartbeats 1000000
set_option maxRecDepth 100000

abbrev tR6 : TypeId := 167
def Pos (b : List UInt8) (at_ : Nat) (s : PSt) : Prop := at_ ≤ b.length ∧ b.drop at_ = s.1
theorem Pos.done {b : List UInt8} {at_ : Nat} {s : PSt} (h : Pos b at_ s) : (at_ = b.length) ↔ s.1 = [] := by
  obtain ⟨h1, h2⟩ := h
  rw [← h2, List.drop_eq_nil_iff]
  omega
theorem rr_num {w : World} {R : Snap} {L : Asrt} {p at_ : Nat} {v : Value} {b : List UInt8} {s : PSt} {k : Nat} (hk : wid k = k) (H : Holds w R (star (blk p #[v, .int .i64 at_, .bool s.2] tR6) L)) (hr : RdB R.cell? v b) (hp : Pos b at_ s) (hb : b.length ≤ 1000000) :
    Calls Try.prog 137 #[.pointer (some ⟨p, 0, none⟩), .int .i64 (k : Int)] w fun e w' => ∃ at' : Nat, e = .returned (.int .i64 ((pNum k s).1 : Nat)) ∧ Holds w' R (star (blk p #[v, .int .i64 at', .bool (pNum k s).2.2] tR6) L) ∧ Pos b at' (pNum k s).2 := by
  refine (refrnum_spec (k := (k : Int)) H hr hp.1 hb).mono ?_
  rintro e w2 ⟨rfl, H2⟩
  rw [hk, hp.2] at *
  refine ⟨_, rfl, H2, cutAt_le hp.1, ?_⟩
  rw [drop_cutAt, hp.2]; rfl
theorem rr_text {w : World} {R : Snap} {L : Asrt} {p at_ : Nat} {v : Value} {b : List UInt8} {s : PSt} (H : Holds w R (star (blk p #[v, .int .i64 at_, .bool s.2] tR6) L)) (hr : RdB R.cell? v b) (hp : Pos b at_ s) (hb : b.length ≤ 1000000) :
    Calls Try.prog 138 #[.pointer (some ⟨p, 0, none⟩)] w fun e w' => ∃ (o : Value) (at' : Nat), e = .returned o ∧ Holds w' R (star (rowB o (pText s).1) (star (blk p #[v, .int .i64 at', .bool (pText s).2.2] tR6) L)) ∧ Pos b at' (pText s).2 := by
  refine (refrtext_spec H hr hp.1 hb).mono ?_
  rintro e w2 ⟨o, rfl, H2⟩
  rw [hp.2] at *
  refine ⟨o, _, rfl, H2, cutAt_le (cutAt_le hp.1), ?_⟩
  rw [drop_cutAt, drop_cutAt, hp.2]; rfl
end Sh
/- sherdref18.Get. -/
set_option linter.unusedVariables false
set_option linter.unusedSimpArgs false
namespace Sh
open Go Go.RowKit Go.Proofs
attribute [local go_sem ↓] Go.wp_at_zero Go.wp_at_succ
set_option maxHeartbeats 1000000
set_option maxRecDepth 100000

theorem rr_raw {w : World} {R : Snap} {L : Asrt} {p at_ : Nat} {v : Value} {b : List UInt8} {s : PSt} (H : Holds w R (star (blk p #[v, .int .i64 at_, .bool s.2] tR6) L)) (hr : RdB R.cell? v b) (hp : Pos b at_ s) (hb : b.length ≤ 1000000) :
    Calls Try.prog 152 #[.pointer (some ⟨p, 0, none⟩), .int .i64 64] w fun e w' => ∃ (o : Value) (at' : Nat), e = .returned o ∧ Holds w' R (star (rowB o (pRaw 64 s).1) (star (blk p #[v, .int .i64 at', .bool (pRaw 64 s).2.2] tR6) L)) ∧ Pos b at' (pRaw 64 s).2 := by
  refine (refraw_spec (n := 64) H hr hp.1 hb).mono ?_
  rintro e w2 ⟨o, rfl, H2⟩
  rw [hp.2] at *
  refine ⟨o, _, rfl, H2, cutAt_le hp.1, ?_⟩
  rw [drop_cutAt, hp.2]; rfl
set_option maxHeartbeats 8000000
theorem chRGet_spec {w : World} {R : Snap} {L : Asrt} {v : Value} {ss : List (Value × List UInt8)} (H : Holds w R L) (hr : RdBB R.cell? v ss) (hn : ss.length ≤ 50) (hlen : ∀ x ∈ ss, x.2.length ≤ 1000000) :
    Calls Try.prog 70 #[v] w fun e w' => ∃ (R' : Snap) (o : Value) (cs : List Ch) (ok : Bool), e = .returned (.tuple #[o, .bool ok]) ∧ R.le R' ∧ GotC (ss.map Prod.snd) (conC cs) ok ∧ RdC R'.cell? o cs ∧ SzC cs ∧ Holds w' R' L := by
  obtain ⟨bss, hbss⟩ : ∃ bss, bss = ss.map Prod.snd := ⟨_, rfl⟩
  rw [← hbss]
  obtain ⟨B1, hB1⟩ : ∃ B1, B1 = bss.drop 1 := ⟨_, rfl⟩
  obtain ⟨a, c, rfl⟩ := hr.form
  obtain ⟨N, hN⟩ : ∃ N, N = ss.length := ⟨_, rfl⟩
  have HR := Hid.mk' hr
  have HN := Hid.mk' hN
  have HBS := Hid.mk' hbss
  have HLN := Hid.mk' hlen
  have HB1 := Hid.mk' hB1
  have hb1l : B1.length = N - 1 := by rw [hB1, List.length_drop, hbss, List.length_map, hN]
  have HB1L := Hid.mk' hb1l
  rw [← hN] at hn ⊢
  clear hr hN hbss hlen hB1 hb1l
  have HSAY : Hid (∀ E, checkC E = 0 → putC E <+: bss → ∃ junk, chs ((B1.filter openOk).flatMap txt2) = (E, (junk, false))) := Hid.mk' (fun E h1 h2 => by
    obtain ⟨s0, rest, e, _, _, _, _, junk, hj⟩ := putC_says h1 h2
    have hb : B1 = rest := by rw [HB1.out, e]; rfl
    exact ⟨junk, by rw [hb, hj, chs_text h1]⟩)
  go_enter Try.func70, Try.ntmps70
  go_wp2_with fail
  go_loopw [4, 5] (fun o i wx => ∃ j q : Nat, i = .int .i64 (q : Int) ∧ q = j + 1 ∧ j ≤ B1.length ∧ Holds wx R (star (rowB o (((B1.take j).filter openOk).flatMap txt2)) L)) (fun _ i _ => N + 1 - (intOf i).toNat)
  case atStart => exact ⟨0, 1, rfl, rfl, Nat.zero_le _, H.nilRow _ 1⟩
  case round =>
    clear H
    obtain ⟨j, q, rfl, hq, hj, H3⟩ := hrel
    have HQ := Hid.mk' hq
    by_cases hlt : q < N
    · have d1 : decide ((q : Int) < (N : Int)) = true := by simp; omega
      have d1n : decide (q < N) = true := by simp; omega
      have hqs : q < ss.length := by rw [← HN.out]; exact hlt
      obtain ⟨b2, o2, ha2, hc2, hq2⟩ := RdBB.at HR.out hqs
      subst ha2
      replace hc2 := H3.cell hc2
      have hjB : j < B1.length := by rw [HB1L.out]; omega
      have gy : B1[j] = ss[q].2 := by
        have h1 : B1[j]? = some ss[q].2 := by rw [HB1.out, List.getElem?_drop, HBS.out, List.getElem?_map, show 1 + j = q by omega, List.getElem?_eq_getElem hqs]; rfl
        rw [List.getElem?_eq_getElem hjB] at h1
        exact Option.some.inj h1
      have HGY : Hid (∀ h : j < B1.length, B1[j] = ss[q].2) := Hid.mk' (fun _ => gy)
      have HJB := Hid.mk' hjB
      generalize ss[q] = xy at *
      obtain ⟨vy, y⟩ := xy
      simp only at hc2 hq2
      obtain ⟨ay, cy, rfl⟩ := hq2.form
      have HQ2 := Hid.mk' hq2
      have j1 : (0 : Int) ≤ (q : Int) := by omega
      have j2 : (q : Int) < (N : Int) := by omega
      clear hq2 gy hjB hqs hq
      go_wp2_with fail
      refine (rsopen_spec H3 HQ2.out).mono ?_
      rintro e w4 ⟨o4, rfl, H4⟩
      obtain ⟨oky, hoy⟩ : ∃ b, openOk y = b := ⟨_, rfl⟩
      have HOY := Hid.mk' hoy
      rw [hoy]
      clear hoy H3 hc2
      cases oky with
      | false =>
        go_wp2_with fail
        go_roundw
        case rel =>
          refine ⟨j + 1, q + 1, by go_num, by have := HQ.out; omega, HJB.out, ?_⟩
          rw [List.take_succ_eq_append_getElem HJB.out, List.filter_append, HGY.out, List.filter_cons_of_neg (by rw [HOY.out]; decide), List.filter_nil, List.append_nil]
          exact H4.drop
        case measure => simp [intOf]; omega
      | true =>
        obtain ⟨R5, le5, H5, hr5⟩ := H4.freezeRow
        obtain ⟨pl, hpl⟩ : ∃ pl, pl = openP y := ⟨_, rfl⟩
        have hl60 := openOk_len HOY.out
        rw [← hpl] at hl60
        replace hr5 : RdB R5.cell? o4 pl := by rw [hpl]; exact hr5
        obtain ⟨a4, c4, rfl⟩ := hr5.form
        have hB1 : 60 ≤ c4 := by have := hr5.bounds; omega
        have hsub := RdB.sub hr5 2 60 c4 (by decide) (by omega) (by omega) (Nat.le_refl _)
        rw [List.take_of_length_le (by rw [List.length_drop]; omega)] at hsub
        have htx : pl.drop 2 = txt2 y := by rw [hpl]; rfl
        rw [htx] at hsub
        have hln : (((B1.take j).filter openOk).flatMap txt2).length ≤ 3000 := by
          have h1 := flat2_len ((B1.take j).filter openOk)
          have h2 := List.length_filter_le openOk (B1.take j)
          have h3 : (B1.take j).length ≤ 49 := by rw [List.length_take, HB1L.out]; omega
          omega
        have hty := txt2_len y
        have HSUB := Hid.mk' hsub
        simp only [hl60]
        clear H4 htx hpl hr5 hl60 hsub
        go_wp2_with (with_reducible refine stop_append ?_)
        refine Hold.go (wpList_appendB (l := ((B1.take j).filter openOk).flatMap txt2) (k := txt2 y) rfl _ _ rfl rfl rfl H5 (Rd.world HSUB.out H5) (by omega) ?_)
        intro v9 w9 H9
        go_wp2_with fail
        go_roundw
        case rel =>
          refine ⟨j + 1, q + 1, by go_num, by have := HQ.out; omega, HJB.out, ?_⟩
          rw [List.take_succ_eq_append_getElem HJB.out, List.filter_append, HGY.out, List.filter_cons_of_pos HOY.out, List.filter_nil, List.flatMap_append, List.flatMap_cons, List.flatMap_nil, List.append_nil]
          exact H9.weaken le5
        case measure => simp [intOf]; omega
    · have d1 : decide ((q : Int) < (N : Int)) = false := by simp; omega
      have d1n : decide (q < N) = false := by simp; omega
      have hjn : B1.length ≤ j := by rw [HB1L.out]; omega
      rw [List.take_of_length_le hjn] at H3
      obtain ⟨T, hT⟩ : ∃ T, T = (B1.filter openOk).flatMap txt2 := ⟨_, rfl⟩
      rw [← hT] at H3 HSAY
      have hTl : T.length ≤ 2900 := by
        have h1 := flat2_len (B1.filter openOk)
        have h2 := List.length_filter_le openOk B1
        rw [HB1L.out] at h2
        rw [hT]; omega
      obtain ⟨R4, le4, H4, hr4⟩ := H3.freezeRow
      obtain ⟨aT, cT, rfl⟩ := hr4.form
      have HRT := Hid.mk' hr4
      have HTL := Hid.mk' hTl
      have hp4 : Pos T 0 (T, false) := ⟨Nat.zero_le _, rfl⟩
      obtain ⟨TL, hTL⟩ : ∃ n, n = T.length := ⟨_, rfl⟩
      have HTN := Hid.mk' hTL
      rw [← hTL]
      have hrT : RdB R4.cell? (.slice aT TL cT) T := by rw [hTL]; exact hr4
      have HRTN := Hid.mk' hrT
      clear H3 hT hr4 hjn hj hTl hTL hrT hq
      go_upto_region 9 with fail
      have H5 := H4.alloc #[.slice aT TL cT, .int .i64 0, .bool false] tR6
      generalize (World.alloc ..) = w5 at H5 ⊢
      generalize wr.heap.size = p8 at H5 ⊢
      clear H4
      go_wp2_with fail
      refine (rr_num (s := (T, false)) (k := 2) (at_ := 0) (by decide) H5 HRTN.out hp4 (by have := HTL.out; omega)).mono ?_
      rintro e w6 ⟨at6, rfl, H6, hp6⟩
      have hk6 := pNum2_lt (T, false)
      have hl6 := pNum_le 2 (T, false)
      obtain ⟨a1, ha⟩ : ∃ a, a = pNum 2 (T, false) := ⟨_, rfl⟩
      have HCH : Hid (chs T = chsP a1.1 a1.2 []) := Hid.mk' (by rw [ha]; rfl)
      rw [← ha] at H6 hp6 hk6 hl6 ⊢
      have HEA : Hid (Eaten T.length 0 a1.2) := Hid.mk' ⟨by omega, fun _ => by simp only at hl6; omega⟩
      obtain ⟨n0, hn0⟩ : ∃ n, n = a1.1 := ⟨_, rfl⟩
      rw [← hn0] at hk6 HCH ⊢
      have HP6 := Hid.mk' hp6
      clear H5 hp4 ha hl6 hn0 hp6
      go_wp2_with fail
      go_loopw [10, 11] (fun o i wx => ∃ (i' k at' : Nat) (s : PSt) (R' : Snap) (cs : List Ch), i = .int .i64 (i' : Int) ∧ i' + k = n0 ∧ R4.le R' ∧ Hid (chs T = chsP k s (conC cs)) ∧ Hid (Eaten T.length cs.length s) ∧ Hid (Pos T at' s) ∧ Hid (∀ x ∈ cs, x.data.length ≤ 64) ∧ Hid (∀ x ∈ cs, RdB R'.cell? x.v x.data) ∧ Holds wx R' (star (row tChg 2 o cs.length (cs.flatMap Ch.cells)) (star (blk p8 #[.slice aT TL cT, .int .i64 (at' : Int), .bool s.2] tR6) L))) (fun _ i _ => n0 - (intOf i).toNat)
      case atStart => exact ⟨0, n0, at6, a1.2, R4, [], rfl, by omega, Snap.le.refl _, HCH, HEA, HP6, Hid.mk' (fun _ h => by cases h), Hid.mk' (fun _ h => by cases h), H6.nilRow _ 2⟩
      case round =>
        clear H6 HCH HEA HP6
        obtain ⟨i', k, at', s, R7, cs, rfl, hik, le7, hC, hE, hP, hD, hRD, H7⟩ := hrel
        obtain ⟨ao, co, rfl⟩ := H7.rowRd.form
        have hcl : cs.length ≤ 985 := by have := hE.out.1; have := HTL.out; omega
        obtain ⟨l8, n8, c8, z8⟩ := Holds.facts (H7.swap)
        by_cases hk0 : i' < n0
        · have d2 : decide ((i' : Int) < (n0 : Int)) = true := by simp; omega
          have d2n : decide (i' < n0) = true := by simp; omega
          obtain ⟨m, rfl⟩ : ∃ m, k = m + 1 := ⟨k - 1, by omega⟩
          obtain ⟨sb, hsb⟩ : ∃ x, s.2 = x := ⟨_, rfl⟩
          have HSB := Hid.mk' hsb
          cases sb with
          | true =>
            have HCC : Hid (chs T = (conC cs, s)) := Hid.mk' (by rw [hC.out, chsP_bad HSB.out])
            rw [hsb] at c8
            clear hsb
            go_wp2_with fail
            go_ret2
            exact ⟨R7, .slice none 0 0, [], false, rfl, le4.trans le7, .inr ⟨rfl, rfl, fun E h1 h2 => by
              obtain ⟨junk, hj⟩ := HSAY.out E h1 h2
              rw [HCC.out] at hj
              have h3 := (Prod.mk.inj hj).2
              have h4 := HSB.out
              rw [h3] at h4
              cases h4⟩, ⟨Rd.nil, fun _ h => by cases h⟩, ⟨Nat.zero_le _, fun _ h => by cases h⟩, H7.drop.drop⟩
          | false =>
            rw [hsb] at c8
            clear hsb
            go_wp2_with fail
            refine (rr_num (s := s) (k := 2) (at_ := at') (by decide) H7.swap (Rd.le HRTN.out le7) hP.out (by have := HTL.out; omega)).mono ?_
            rintro e w8 ⟨at8, rfl, H8, hp8⟩
            obtain ⟨a2, ha⟩ : ∃ a, a = pNum 2 s := ⟨_, rfl⟩
            rw [← ha] at H8 hp8 ⊢
            have A2 := Hid.mk' ha
            have HP8 := Hid.mk' hp8
            clear ha H7 hp8 l8 n8 c8 z8
            have H9 := (H8.alloc #[.int .i64 ((a2.1 : Nat) : Int), .slice none 0 0] tChg).swap
            go_upto_region 15 with fail
            generalize (World.alloc ..) = w9 at H9 ⊢
            generalize w8.heap.size = g at H9 ⊢
            clear H8
            go_wp2_with fail
            refine (rr_num (s := a2.2) (k := 1) (at_ := at8) (by decide) H9 (Rd.le HRTN.out le7) HP8.out (by have := HTL.out; omega)).mono ?_
            rintro e w10 ⟨at10, rfl, H10, hp10⟩
            obtain ⟨a3, ha⟩ : ∃ a, a = pNum 1 a2.2 := ⟨_, rfl⟩
            rw [← ha] at H10 hp10 ⊢
            have A3 := Hid.mk' ha
            have HP10 := Hid.mk' hp10
            have HE3 : Hid (Eaten T.length (cs.length + 1) a3.2) := Hid.mk' (by rw [ha, A2.out]; exact hE.out.num HSB.out)
            clear ha H9 hp10
            by_cases h1 : a3.1 = 1
            · have t1 : (((a3.1 : Nat) : Int) == 1) = true := by rw [beq_iff_eq]; omega
              have HC2 : Hid (chs T = chsP m (pRaw 64 a3.2).2 (conC cs ++ [(((a2.1 : Nat) : Int), (pRaw 64 a3.2).1)])) := Hid.mk' (by
                rw [hC.out, chsP_raw HSB.out (by rw [← A2.out, ← A3.out]; exact h1), ← A2.out, ← A3.out])
              have H1 := Hid.mk' h1
              clear h1
              go_wp2_with fail
              refine (rr_raw (s := a3.2) (at_ := at10) H10 (Rd.le HRTN.out le7) HP10.out (by have := HTL.out; omega)).mono ?_
              rintro e w11 ⟨o11, at11, rfl, H11, hp11⟩
              obtain ⟨R12, le12, H12, hr12⟩ := H11.freezeRow
              obtain ⟨qq, hq⟩ : ∃ q, q = pRaw 64 a3.2 := ⟨_, rfl⟩
              have HE4 : Hid (Eaten T.length (cs.length + 1) qq.2) := Hid.mk' (by rw [hq]; exact HE3.out.raw)
              have hq64 : qq.1.length ≤ 64 := by rw [hq]; exact cutOut_64 _ _
              rw [← hq] at HC2 hr12 H12 hp11
              obtain ⟨a12, c12, rfl⟩ := hr12.form
              have HR12 := Hid.mk' hr12
              have HP11 := Hid.mk' hp11
              have HQ64 := Hid.mk' hq64
              obtain ⟨ql, hqll⟩ : ∃ n, n = qq.1.length := ⟨_, rfl⟩
              have HQLL := Hid.mk' hqll
              rw [← hqll]
              clear H10 H11 hq hp11 hr12 hq64 hqll
              obtain ⟨l8, n8, c8, z8⟩ := Holds.facts (H12.swap)
              go_upto_region 17 with fail
              have H13 := (H12.swap.set 1 (.slice a12 ql c12))
              replace H13 : Holds _ R12 (star (blk g #[.int .i64 ((a2.1 : Nat) : Int), .slice a12 ql c12] tChg) (star (blk p8 #[.slice aT TL cT, .int .i64 (at11 : Int), .bool qq.2.2] tR6) (star (row tChg 2 (.slice ao cs.length co) cs.length (cs.flatMap Ch.cells)) L))) := H13
              generalize (World.setCell ..) = w13 at H13 ⊢
              clear l8 n8 c8 z8 H12
              have H10 := H13
              clear H13
              obtain ⟨l9, n9, c9, z9⟩ := Holds.facts (H10)
              go_upto_region 17 with fail
              go_wp2_with (with_reducible refine stop_append ?_)
              have H11 := H10.alloc #[.int .i64 ((a2.1 : Nat) : Int), .slice a12 ql c12] tChg
              have hr11 := (H11.toRow 2 1 1 (Nat.le_refl _) (by decide) rfl).rowRd
              refine Hold.go (wpList_append rfl _ _ rfl undChgs infoChg rfl (by decide) rfl rfl H11.drop.pick3 hr11 (by simp [Value.oneCell']) (by simp only [maxLen]; omega) (by omega) ?_)
              intro v12 w12 H12
              clear l9 n9 c9 z9 hr11 H11
              go_wp2_with fail
              go_roundw
              case rel =>
                refine ⟨i' + 1, m, at11, qq.2, R12, cs ++ [⟨((a2.1 : Nat) : Int), .slice a12 ql c12, qq.1⟩], by go_num, by omega, le7.trans le12, Hid.mk' ?_, Hid.mk' ?_, HP11, Hid.mk' (fun x hx => ?_), Hid.mk' (fun x hx => ?_), ?_⟩
                · rw [HC2.out]; simp [conC]
                · rw [List.length_append]; exact HE4.out
                · rcases List.mem_append.1 hx with h | h
                  · exact hD.out x h
                  · obtain rfl := List.mem_singleton.1 h
                    exact HQ64.out
                · rcases List.mem_append.1 hx with h | h
                  · exact Rd.le (hRD.out x h) le12
                  · obtain rfl := List.mem_singleton.1 h
                    have h2 := HR12.out
                    rw [← HQLL.out] at h2
                    show Rd R12.cell? 1 (.slice a12 ql c12) qq.1.length (u8s qq.1)
                    rw [← HQLL.out]
                    exact h2
                · rw [flat_snoc, List.length_append]
                  exact H12.swap.drop
              case measure => simp [intOf]; omega
            · have t1 : (((a3.1 : Nat) : Int) == 1) = false := by rw [beq_eq_false_iff_ne]; omega
              have HC2 : Hid (chs T = chsP m a3.2 (conC cs ++ [(((a2.1 : Nat) : Int), [])])) := Hid.mk' (by
                rw [hC.out, chsP_no HSB.out (by rw [← A2.out, ← A3.out]; exact h1), ← A2.out, ← A3.out])
              have H1 := Hid.mk' h1
              clear h1
              have H11 := H10.swap
              clear H10
              have H10 := H11
              clear H11
              obtain ⟨l9, n9, c9, z9⟩ := Holds.facts (H10)
              go_upto_region 17 with fail
              go_wp2_with (with_reducible refine stop_append ?_)
              have H11 := H10.alloc #[.int .i64 ((a2.1 : Nat) : Int), .slice none 0 0] tChg
              have hr11 := (H11.toRow 2 1 1 (Nat.le_refl _) (by decide) rfl).rowRd
              refine Hold.go (wpList_append rfl _ _ rfl undChgs infoChg rfl (by decide) rfl rfl H11.drop.pick3 hr11 (by simp [Value.oneCell']) (by simp only [maxLen]; omega) (by omega) ?_)
              intro v12 w12 H12
              clear l9 n9 c9 z9 hr11 H11
              go_wp2_with fail
              go_roundw
              case rel =>
                refine ⟨i' + 1, m, at10, a3.2, R7, cs ++ [⟨((a2.1 : Nat) : Int), .slice none 0 0, []⟩], by go_num, by omega, le7, Hid.mk' ?_, Hid.mk' ?_, HP10, Hid.mk' (fun x hx => ?_), Hid.mk' (fun x hx => ?_), ?_⟩
                · rw [HC2.out]; simp [conC]
                · rw [List.length_append]; exact HE3.out
                · rcases List.mem_append.1 hx with h | h
                  · exact hD.out x h
                  · obtain rfl := List.mem_singleton.1 h
                    exact Nat.zero_le _
                · rcases List.mem_append.1 hx with h | h
                  · exact hRD.out x h
                  · obtain rfl := List.mem_singleton.1 h
                    exact Rd.nil
                · rw [flat_snoc, List.length_append]
                  exact H12.swap.drop
              case measure => simp [intOf]; omega
        · have d2 : decide ((i' : Int) < (n0 : Int)) = false := by simp; omega
          have d2n : decide (i' < n0) = false := by simp; omega
          have hk00 : k = 0 := by omega
          have HCC : Hid (chs T = (conC cs, s)) := Hid.mk' (by rw [hC.out, hk00]; rfl)
          have HX := Hid.mk' hk00
          clear hk00
          obtain ⟨sb, hsb⟩ : ∃ x, s.2 = x := ⟨_, rfl⟩
          have HSB := Hid.mk' hsb
          rw [hsb] at c8
          cases sb with
          | true =>
            clear hsb
            go_wp2_with fail
            go_ret2
            exact ⟨R7, .slice none 0 0, [], false, rfl, le4.trans le7, .inr ⟨rfl, rfl, fun E h1 h2 => by
              obtain ⟨junk, hj⟩ := HSAY.out E h1 h2
              rw [HCC.out] at hj
              have h3 := (Prod.mk.inj hj).2
              have h4 := HSB.out
              rw [h3] at h4
              cases h4⟩, ⟨Rd.nil, fun _ h => by cases h⟩, ⟨Nat.zero_le _, fun _ h => by cases h⟩, H7.drop.drop⟩
          | false =>
            obtain ⟨R9, le9, H9, hr9⟩ := H7.freezeRow
            have HRC : Hid (RdC R9.cell? (.slice ao cs.length co) cs) := Hid.mk' ⟨hr9, fun x hx => Rd.le (hRD.out x hx) le9⟩
            have HSZ : Hid (SzC cs) := Hid.mk' ⟨by omega, fun x hx => by have := hD.out x hx; omega⟩
            clear l8 n8 c8 z8 hr9
            obtain ⟨l8, n8, c8, z8⟩ := Holds.facts (H9)
            rw [hsb] at c8
            go_wp2_with fail
            refine (chRAre_spec H9 (by have h := HR.out.le ((le4.trans le7).trans le9); rw [← HN.out] at h; exact h) HLN.out HRC.out HSZ.out).mono ?_
            rintro e w10 ⟨rfl, H10⟩
            rw [← HBS.out]
            obtain ⟨y, hy⟩ : ∃ y, decide (checkC (conC cs) = 0 ∧ putC (conC cs) <+: bss) = y := ⟨_, rfl⟩
            rw [hy]
            have HY := Hid.mk' hy
            clear hy
            cases y with
            | false =>
              go_wp2_with fail
              go_ret2
              exact ⟨R9, .slice none 0 0, [], false, rfl, (le4.trans le7).trans le9, .inr ⟨rfl, rfl, fun E h1 h2 => by
                obtain ⟨junk, hj⟩ := HSAY.out E h1 h2
                rw [HCC.out] at hj
                have h3 := (Prod.mk.inj hj).1
                have h4 := of_decide_eq_false HY.out
                rw [h3] at h4
                exact h4 ⟨h1, h2⟩⟩, ⟨Rd.nil, fun _ h => by cases h⟩, ⟨Nat.zero_le _, fun _ h => by cases h⟩, H10.drop⟩
            | true =>
              go_wp2_with fail
              go_ret2
              exact ⟨R9, _, cs, true, rfl, (le4.trans le7).trans le9, .inl ⟨rfl, (of_decide_eq_true HY.out).1, (of_decide_eq_true HY.out).2⟩, HRC.out, HSZ.out, H10.drop⟩
end Sh
/- Entries' laws: few, alive. -/
set_option linter.unusedVariables false
set_option linter.unusedSimpArgs false
namespace Sh
open Go Go.RowKit Go.Proofs
attribute [local go_sem ↓] Go.wp_at_zero Go.wp_at_succ
set_option maxHeartbeats 1000000
set_option maxRecDepth 100000

theorem few18_spec {w : World} {R : Snap} {L : Asrt} {v : Value} {cs : List Ch} (H : Holds w R L) (hr : RdC R.cell? v cs) :
    Calls Try.prog 61 #[v] w fun e w' => ∃ b, e = .returned (.bool b) ∧ (b = true → cs.length ≤ 50 ∧ ∀ x ∈ cs, x.data.length ≤ 100) ∧ Holds w' R L := by
  obtain ⟨a, c, rfl⟩ := hr.form
  have hmx := Rd.max hr.1
  unfold maxLen at hmx
  obtain ⟨n, hn⟩ : ∃ n, n = cs.length := ⟨_, rfl⟩
  have HR := Hid.mk' hr
  have HN := Hid.mk' hn
  rw [← hn] at hmx ⊢
  clear hr hn
  go_enter Try.func61, Try.ntmps61
  go_wp2_with fail
  go_loopw [7] (fun i wx => ∃ (j : Nat), i = .int .i64 j ∧ j ≤ n ∧ Hid (∀ k (h : k < cs.length), k < j → cs[k].data.length ≤ 100) ∧ Holds wx R L) (fun i _ => n - (intOf i).toNat)
  case atStart => exact ⟨0, rfl, Nat.zero_le _, Hid.mk' (fun k _ h => absurd h (Nat.not_lt_zero k)), H⟩
  case round =>
    clear H
    obtain ⟨j, rfl, hj, hA, H3⟩ := hrel
    by_cases hlt : j < n
    · have d1 : decide ((j : Int) < (n : Int)) = true := by simp; omega
      have hjs : j < cs.length := by rw [← HN.out]; exact hlt
      obtain ⟨b2, o2, rfl, hc0, hc1, hq⟩ := RdC.at HR.out hjs
      obtain ⟨l, hl⟩ : ∃ l, l = cs[j].data.length := ⟨_, rfl⟩
      have HL : Hid (∀ h : j < cs.length, cs[j].data.length = l) := Hid.mk' (fun _ => hl.symm)
      generalize cs[j] = x at hc0 hc1 hq hl
      obtain ⟨xa, xv, xd⟩ := x
      simp only at hc0 hc1 hq hl
      obtain ⟨ax, cx, rfl⟩ := hq.form
      rw [← hl] at hc1
      have hlm := Rd.max hq
      rw [← hl] at hlm
      unfold maxLen at hlm
      replace hc0 := H3.cell hc0
      replace hc1 := H3.cell hc1
      have i1 : (0 : Int) ≤ (j : Int) := by omega
      have i2 : (j : Int) < (n : Int) := by omega
      have H4 := H3.garbage (.cells #[.int .i64 xa, .slice ax l cx] tChg)
      clear hq hl hjs
      by_cases h100 : 100 < l
      · have t1 : decide ((100 : Int) < (l : Int)) = true := by simp; omega
        have t1n : decide (100 < l) = true := by simp; omega
        go_wp2_with fail
        go_ret
        exact ⟨false, rfl, (fun h => by cases h), H4⟩
      · have t1 : decide ((100 : Int) < (l : Int)) = false := by simp; omega
        have t1n : decide (100 < l) = false := by simp; omega
        go_wp2_with fail
        go_roundw
        case rel =>
          refine ⟨j + 1, by go_num, hlt, Hid.mk' (fun k h h2 => ?_), H4⟩
          rcases Nat.lt_or_ge k j with h3 | h3
          · exact hA.out k h h3
          · obtain rfl : k = j := by omega
            rw [HL.out]; omega
        case measure => simp [intOf]; omega
    · have d1 : decide ((j : Int) < (n : Int)) = false := by simp; omega
      obtain rfl : j = n := by omega
      have HD : Hid (∀ x ∈ cs, x.data.length ≤ 100) := Hid.mk' (fun x hx => by
        obtain ⟨i, hi, rfl⟩ := List.mem_iff_getElem.1 hx
        exact hA.out i hi (by rw [HN.out]; exact hi))
      clear hA
      by_cases h50 : j ≤ 50
      · have t1 : decide ((j : Int) ≤ 50) = true := by simp; omega
        have t1n : decide (j ≤ 50) = true := by simp; omega
        go_wp2_with fail
        go_ret
        exact ⟨true, rfl, (fun _ => ⟨h50, HD.out⟩), H3⟩
      · have t1 : decide ((j : Int) ≤ 50) = false := by simp; omega
        have t1n : decide (j ≤ 50) = false := by simp; omega
        go_wp2_with fail
        go_ret
        exact ⟨false, rfl, (fun h => by cases h), H3⟩
theorem en40 : checkC [(40, [])] = 0 := by decide
theorem en40_len : (putC [(40, [])]).length = 2 := by rw [putC_len, textC_len]; decide
set_option maxHeartbeats 8000000
theorem alive18 {w : World} {R : Snap} {L : Asrt} (H : Holds w R L) (hcy : L.celly) : Calls Try.prog 62 #[] w fun e w' => e = .returned (.bool true) ∧ Holds w' R L := by
  go_enter Try.func62, Try.ntmps62
  go_wp2_with fail
  refine (new_crc H).mono ?_
  rintro e w1 ⟨p, rfl, H1⟩
  obtain ⟨R1, le1, H2, hT⟩ := H1.freezeBlk
  clear H1 H
  go_wp2_with fail
  obtain ⟨R2, le2, H3, hr3⟩ := ((H2.alloc #[.int .i64 40, .slice none 0 0] tChg).toRow 2 1 1 (Nat.le_refl _) (by decide) rfl).freezeRow
  have hrc : RdC R2.cell? (.slice (some ⟨w1.heap.size, 0, none⟩) 1 1) [⟨40, .slice none 0 0, []⟩] := ⟨hr3, fun x hx => by
    obtain rfl := List.mem_singleton.1 hx
    exact Rd.nil⟩
  have hsz : SzC [⟨40, .slice none 0 0, []⟩] := ⟨by simp, fun x hx => by obtain rfl := List.mem_singleton.1 hx; simp⟩
  have HRC := Hid.mk' hrc
  have HSZ := Hid.mk' hsz
  have hT2 := le2.blk _ _ hT
  have leA := le1.trans le2
  clear H2 hr3 hrc hsz
  refine (entPut_ok H3 hcy hT2 HRC.out HSZ.out en40).mono ?_
  rintro e w4 ⟨o, q, rfl, hq, H4⟩
  obtain ⟨R5, le5, H5, hqq⟩ := freezeBB H4
  have hql : q.length = 2 := by
    have := congrArg List.length hq
    rw [List.length_map] at this
    exact this.trans en40_len
  obtain ⟨ao, co, rfl⟩ := hqq.form
  have hT5 := le5.blk _ _ hT2
  have HQ := Hid.mk' hq
  have HQL := Hid.mk' hql
  have HQQ : Hid (RdBB R5.cell? (.slice ao 2 co) q) := Hid.mk' (by rw [← hql]; exact hqq)
  simp only [hql]
  replace leA := leA.trans le5
  clear H3 H4 hq hql hqq
  go_wp2_with fail
  refine entGet_spec H5 hcy hT5 HQQ.out (by rw [HQL.out]; decide) ?_
  intro R6 o6 cs ok w6 le6 hG hRC hZ H6
  have hpre : putC [(40, [])] <+: q.map Prod.snd := by
    have h := HQ.out
    rw [show q.map Prod.snd = putC [(40, [])] from h]; exact List.prefix_refl _
  have hG' : ok = true ∧ checkC (conC cs) = 0 ∧ putC (conC cs) <+: q.map Prod.snd := by
    rcases hG with h | ⟨_, _, h4⟩
    · exact h
    · exact absurd hpre (h4 _ en40)
  obtain ⟨rfl, h1, h2⟩ := hG'
  have hcc := putC_one h1 en40 h2 hpre
  match cs, hcc with
  | [⟨xa, xv, xd⟩], hcc =>
    simp only [conC, List.map_cons, List.map_nil, List.cons.injEq, Prod.mk.injEq, and_true] at hcc
    obtain ⟨rfl, rfl⟩ := hcc
    obtain ⟨a6, c6, rfl⟩ := hRC.form
    obtain ⟨b6, o6, rfl, hc0, hc1, hq6⟩ := RdC.at hRC (j := 0) (by simp)
    replace hc0 := H6.cell hc0
    replace hc1 := H6.cell hc1
    obtain ⟨ax, cx, hax⟩ := hq6.form
    simp only [List.getElem_cons_zero, List.length_nil] at hc0 hc1 hax
    subst hax
    rw [Nat.zero_mul, Nat.add_zero] at hc0 hc1
    replace leA := leA.trans le6
    clear hG hRC hpre h1 h2 hq6 H5
    have e1 : [(⟨40, .slice ax 0 cx, []⟩ : Ch)].length = 1 := rfl
    rw [e1]
    clear e1
    go_wp2_with fail
    refine (most_spec _).mono ?_
    rintro e w7 ⟨rfl, rfl⟩
    go_wp2_with fail
    go_ret
    exact ⟨rfl, H6.weaken leA⟩
end Sh
