/- EntRAre MsgRRd EntRGet JrnRef3: joined texts, each with its own sentence below. -/
import Derived.Test.YtmogagcffebbaaaJd19
import Derived.Test.YtmogagcffebbaaaJd14
import Derived.BigQuiet
import Derived.Test.YtmogagcffebbaaaJd3
import Derived.Test.YtmogagcffebbaaaJd11
import Derived.Test.YtmogagcffebbaaaJd17
import Derived.Test.YtmogagcffebbaaaJd12
/- sherdref18.Are, Same. -/
set_option linter.unusedVariables false
set_option linter.unusedSimpArgs false
namespace Sh
open Go Go.RowKit Go.Proofs
attribute [local go_sem ↓] Go.wp_at_zero Go.wp_at_succ
set_option maxHeartbeats 1000000
set_option maxRecDepth 100000

theorem putC_lens {E : List En} {q : List (Value × List UInt8)} (h : q.map Prod.snd = putC E) : ∀ x ∈ q, x.2.length ≤ 1000000 := by
  intro x hx
  have h1 : x.2 ∈ putC E := by rw [← h]; exact List.mem_map.2 ⟨x, hx, rfl⟩
  unfold putC at h1
  rcases List.mem_cons.1 h1 with h2 | h2
  · rw [h2]; exact Nat.le_trans (sealS_len_le _) (by decide)
  · obtain ⟨i, _, h3⟩ := List.mem_map.1 h2
    rw [← h3]; exact Nat.le_trans (sealS_len_le _) (by decide)
set_option maxHeartbeats 8000000
theorem chRAre_spec {w : World} {R : Snap} {L : Asrt} {v : Value} {ss : List (Value × List UInt8)} {u : Value} {cs : List Ch} (H : Holds w R L) (hv : RdBB R.cell? v ss) (hlen : ∀ x ∈ ss, x.2.length ≤ 1000000) (hr : RdC R.cell? u cs) (hz : SzC cs) :
    Calls Try.prog 71 #[v, u] w fun e w' => e = .returned (.bool (decide (checkC (conC cs) = 0 ∧ putC (conC cs) <+: ss.map Prod.snd))) ∧ Holds w' R L := by
  obtain ⟨y, hy⟩ : ∃ y, y = decide (checkC (conC cs) = 0 ∧ putC (conC cs) <+: ss.map Prod.snd) := ⟨_, rfl⟩
  rw [← hy]
  have HY := Hid.mk' hy
  have HR := Hid.mk' hr
  have HZ := Hid.mk' hz
  have HS := Hid.mk' hlen
  obtain ⟨a, ca, rfl⟩ := hv.form
  have hmx := (Rd.max hv.1)
  unfold maxLen at hmx
  have HV := Hid.mk' hv
  obtain ⟨n, hn⟩ : ∃ n, n = ss.length := ⟨_, rfl⟩
  have HN := Hid.mk' hn
  rw [← hn] at hmx ⊢
  obtain ⟨au, cu, rfl⟩ := hr.form
  obtain ⟨E, hE⟩ : ∃ E, E = conC cs := ⟨_, rfl⟩
  have HE := Hid.mk' hE
  rw [← hE] at HY
  obtain ⟨n2, hn2⟩ : ∃ n, n = cs.length := ⟨_, rfl⟩
  have HN2 := Hid.mk' hn2
  rw [← hn2]
  clear hv hn hy hlen hr hz hE hn2
  go_enter Try.func71, Try.ntmps71
  go_wp2_with fail
  refine (chRCheck_spec H (by have h := HR.out; rw [← HN2.out] at h; exact h) HZ.out).mono ?_
  rintro e w3 ⟨rfl, H3⟩
  rw [← HE.out]
  clear H
  obtain ⟨kc, hkc⟩ : ∃ kc, checkC E = kc := ⟨_, rfl⟩
  rw [hkc]
  have HKC := Hid.mk' hkc
  by_cases hk0 : ¬ kc = 0
  · have t1 : (kc != 0) = true := by simpa using hk0
    have HYY : Hid (y = false) := Hid.mk' (by rw [HY.out, decide_eq_false_iff_not, HKC.out]; rintro ⟨h, _⟩; exact hk0 h)
    clear hk0 hkc
    go_wp2_with fail
    go_ret
    exact ⟨ret_bool HYY.out.symm, H3⟩
  obtain rfl : kc = 0 := by omega
  clear hkc hk0
  go_wp2_with fail
  refine (chRPut_ok H3 (by have h := HR.out; rw [← HN2.out] at h; exact h) HZ.out (by rw [← HE.out]; exact HKC.out)).mono ?_
  rintro e w4 ⟨o, q, rfl, hq, H4⟩
  rw [← HE.out] at hq
  unfold rowsR at H4
  obtain ⟨R5, le5, H5, hqq⟩ := freezeBB H4
  obtain ⟨ao, co, rfl⟩ := hqq.form
  have hqm := Rd.max hqq.1
  unfold maxLen at hqm
  obtain ⟨m, hm⟩ : ∃ m, m = q.length := ⟨_, rfl⟩
  have HM := Hid.mk' hm
  have HQ := Hid.mk' hq
  have HQQ := Hid.mk' hqq
  have HPL : Hid ((putC E).length = m) := Hid.mk' (by rw [← hq, List.length_map, hm])
  have HT := Hid.mk' (putC_lens hq)
  have leA := le5
  replace HV := Hid.mk' (HV.out.le leA)
  rw [← hm] at hqm ⊢
  clear H3 H4 hqq hq hm
  by_cases hnm : n < m
  · have t1 : decide ((n : Int) < (m : Int)) = true := by simp; omega
    have t1n : decide (n < m) = true := by simp; omega
    have HYY : Hid (y = false) := Hid.mk' (by
      rw [HY.out, decide_eq_false_iff_not]
      rintro ⟨_, h⟩
      have := h.length_le
      rw [HPL.out, List.length_map, ← HN.out] at this
      omega)
    clear hnm
    go_wp2_with fail
    go_ret
    exact ⟨ret_bool HYY.out.symm, H5.weaken leA⟩
  · have t1 : decide ((n : Int) < (m : Int)) = false := by simp; omega
    have t1n : decide (n < m) = false := by simp; omega
    have hmn : m ≤ n := by omega
    clear hnm
    go_wp2_with fail
    go_loopw [6] (fun i wx => ∃ j : Nat, i = .int .i64 j ∧ j ≤ m ∧ Hid ((putC E).take j = (ss.map Prod.snd).take j) ∧ Holds wx R5 L) (fun i _ => m - (intOf i).toNat)
    case atStart => exact ⟨0, rfl, Nat.zero_le _, Hid.mk' rfl, H5⟩
    case round =>
      clear H5
      obtain ⟨j, rfl, hj, hA, H3⟩ := hrel
      by_cases hlt : j < m
      · have d1 : decide ((j : Int) < (m : Int)) = true := by simp; omega
        have hjs : j < ss.length := by rw [← HN.out]; omega
        have hjt : j < q.length := by rw [← HM.out]; exact hlt
        obtain ⟨b2, o2, ha2, hc2, hq2⟩ := RdBB.at HV.out hjs
        obtain ⟨b3, o3, ha3, hc3, hq3⟩ := RdBB.at HQQ.out hjt
        subst ha2 ha3
        replace hc2 := H3.cell hc2
        replace hc3 := H3.cell hc3
        have hl2 := HS.out _ (List.getElem_mem hjs)
        have hl3 := HT.out _ (List.getElem_mem hjt)
        have g2 : (ss.map Prod.snd)[j]? = some ss[j].2 := by rw [List.getElem?_map, List.getElem?_eq_getElem hjs]; rfl
        have g3 : (putC E)[j]? = some q[j].2 := by rw [← HQ.out, List.getElem?_map, List.getElem?_eq_getElem hjt]; rfl
        generalize ss[j] = x2 at *
        generalize q[j] = x3 at *
        obtain ⟨v2, l2⟩ := x2
        obtain ⟨v3, l3⟩ := x3
        simp only at hc2 hc3 hq2 hq3 hl2 hl3 g2 g3
        obtain ⟨av2, cv2, rfl⟩ := hq2.form
        obtain ⟨av3, cv3, rfl⟩ := hq3.form
        have hq := fun w' (h : Holds w' R5 L) => same_spec (Rd.world hq2 h) (Rd.world hq3 h) hl2 hl3
        have HSM := Hid.mk' hq
        have G2 := Hid.mk' g2
        have G3 := Hid.mk' g3
        have i1 : (0 : Int) ≤ (j : Int) := by omega
        have i2 : (j : Int) < (n : Int) := by omega
        have i3 : (j : Int) < (m : Int) := by omega
        have HH := Hid.mk' H3
        clear hq hq2 hq3 hl2 hl3 g2 g3 hjs hjt
        go_wp2_with fail
        go_quiet ((go_at_call 27; exact Calls.quiet_of (HSM.out _ (H3.drewN _))))
        by_cases hll : l2 = l3
        · rw [decide_eq_true hll]
          have HLL := Hid.mk' hll
          clear hll
          go_wp2_with fail
          go_roundw
          case rel =>
            refine ⟨j + 1, by go_num, hlt, Hid.mk' ?_, H3.drewN _⟩
            have e1 := List.take_add_one (l := putC E) (i := j)
            have e2 := List.take_add_one (l := ss.map Prod.snd) (i := j)
            rw [e1, e2, hA.out, G2.out, G3.out, HLL.out]
          case measure => simp [intOf]; omega
        · rw [decide_eq_false hll]
          have HYY : Hid (y = false) := Hid.mk' (by
            rw [HY.out, decide_eq_false_iff_not]
            rintro ⟨_, t, ht⟩
            have h := G3.out
            have h2 := G2.out
            rw [← ht, List.getElem?_append_left (by rw [HPL.out]; exact hlt), h] at h2
            exact hll (Option.some.inj h2).symm)
          clear hll
          go_wp2_with fail
          go_ret
          exact ⟨ret_bool HYY.out.symm, (H3.drewN _).weaken leA⟩
      · have d1 : decide ((j : Int) < (m : Int)) = false := by simp; omega
        obtain rfl : j = m := by omega
        have HYY : Hid (y = true) := Hid.mk' (by
          rw [HY.out, decide_eq_true_eq]
          refine ⟨HKC.out, ?_⟩
          have h := hA.out
          rw [List.take_of_length_le (by rw [HPL.out]; exact Nat.le_refl _)] at h
          rw [h]
          exact List.take_prefix _ _)
        go_wp2_with fail
        go_ret
        exact ⟨ret_bool HYY.out.symm, H3.weaken leA⟩
theorem chSame_spec {w : World} {R : Snap} {L : Asrt} {u v : Value} {cs ds : List Ch} (H : Holds w R L) (hu : RdC R.cell? u cs) (hv : RdC R.cell? v ds) (hs : SzC cs) (ht : SzC ds) :
    Calls Try.prog 69 #[u, v] w fun e w' => e = .returned (.bool (decide (conC cs = conC ds))) ∧ Holds w' R L := by
  obtain ⟨y, hy⟩ : ∃ y, y = decide (conC cs = conC ds) := ⟨_, rfl⟩
  rw [← hy]
  have HY := Hid.mk' hy
  obtain ⟨a, ca, rfl⟩ := hu.form
  obtain ⟨b, cb, rfl⟩ := hv.form
  have hmx := hs.1
  have HU := Hid.mk' hu
  have HV := Hid.mk' hv
  have HS := Hid.mk' hs.2
  have HT := Hid.mk' ht.2
  have hmy := ht.1
  obtain ⟨n, hn⟩ : ∃ n, n = cs.length := ⟨_, rfl⟩
  obtain ⟨m, hm⟩ : ∃ m, m = ds.length := ⟨_, rfl⟩
  have HN := Hid.mk' hn
  have HM := Hid.mk' hm
  rw [← hn] at hmx
  rw [← hm] at hmy
  rw [← hn, ← hm]
  clear hu hv hs ht hn hm hy
  by_cases hnm : n = m
  · subst hnm
    go_enter Try.func69, Try.ntmps69
    go_wp2_with fail
    go_loopw [5] (fun i wx => ∃ j : Nat, i = .int .i64 j ∧ j ≤ n ∧ Hid ((conC cs).take j = (conC ds).take j) ∧ Holds wx R L) (fun i _ => n - (intOf i).toNat)
    case atStart => exact ⟨0, rfl, Nat.zero_le _, Hid.mk' rfl, H⟩
    case round =>
      clear H
      obtain ⟨j, rfl, hj, hA, H3⟩ := hrel
      by_cases hlt : j < n
      · have d1 : decide ((j : Int) < (n : Int)) = true := by simp; omega
        have hjs : j < cs.length := by rw [← HN.out]; exact hlt
        have hjt : j < ds.length := by rw [← HM.out]; exact hlt
        obtain ⟨b2, o2, ha2, hc2, hd2, hq2⟩ := RdC.at HU.out hjs
        obtain ⟨b3, o3, ha3, hc3, hd3, hq3⟩ := RdC.at HV.out hjt
        subst ha2 ha3
        replace hc2 := H3.cell hc2
        replace hc3 := H3.cell hc3
        replace hd2 := H3.cell hd2
        replace hd3 := H3.cell hd3
        have hl2 := HS.out _ (List.getElem_mem hjs)
        have hl3 := HT.out _ (List.getElem_mem hjt)
        have g2 := conC_get hjs
        have g3 := conC_get hjt
        generalize cs[j] = x2 at *
        generalize ds[j] = x3 at *
        obtain ⟨p2, v2, l2⟩ := x2
        obtain ⟨p3, v3, l3⟩ := x3
        simp only at hc2 hc3 hd2 hd3 hq2 hq3 hl2 hl3 g2 g3
        obtain ⟨av2, cv2, rfl⟩ := hq2.form
        obtain ⟨av3, cv3, rfl⟩ := hq3.form
        have hq := fun w' (h : Holds w' R L) => same_spec (Rd.world hq2 h) (Rd.world hq3 h) (by omega) (by omega)
        have HQ := Hid.mk' hq
        have G2 := Hid.mk' g2
        have G3 := Hid.mk' g3
        have i1 : (0 : Int) ≤ (j : Int) := by omega
        have i2 : (j : Int) < (n : Int) := by omega
        have HH := Hid.mk' H3
        clear hq hq2 hq3 hl2 hl3 g2 g3 hjs hjt
        by_cases hpp : p2 = p3
        · have t2 : (p2 != p3) = false := by simpa using hpp
          have HPP := Hid.mk' hpp
          clear hpp
          go_wp2_with fail
          go_quiet ((go_at_call 27; exact Calls.quiet_of (HQ.out _ (H3.drewN _))))
          by_cases hll : l2 = l3
          · rw [decide_eq_true hll]
            have HLL := Hid.mk' hll
            clear hll
            go_wp2_with fail
            go_roundw
            case rel =>
              refine ⟨j + 1, by go_num, hlt, Hid.mk' ?_, H3.drewN _⟩
              have e1 := List.take_add_one (l := conC cs) (i := j)
              have e2 := List.take_add_one (l := conC ds) (i := j)
              rw [e1, e2, hA.out, G2.out, G3.out, HLL.out, HPP.out]
            case measure => simp [intOf]; omega
          · rw [decide_eq_false hll]
            have HYY : Hid (y = false) := Hid.mk' (by
              rw [HY.out, decide_eq_false_iff_not]
              intro h
              have h2 := G2.out
              rw [h, G3.out] at h2
              have h3 := Option.some.inj h2
              simp only [Prod.mk.injEq] at h3
              exact hll h3.2.symm)
            clear hll
            go_wp2_with fail
            go_ret
            exact ⟨ret_bool HYY.out.symm, H3.drewN _⟩
        · have t2 : (p2 != p3) = true := by simpa using hpp
          have HYY : Hid (y = false) := Hid.mk' (by
            rw [HY.out, decide_eq_false_iff_not]
            intro h
            have h2 := G2.out
            rw [h, G3.out] at h2
            have h3 := Option.some.inj h2
            simp only [Prod.mk.injEq] at h3
            exact hpp h3.1.symm)
          have HPP := Hid.mk' hpp
          clear hpp
          go_wp2_with fail
          go_quiet (fail)
          go_wp2_with fail
          go_ret
          exact ⟨ret_bool HYY.out.symm, H3.drewN _⟩
      · have d1 : decide ((j : Int) < (n : Int)) = false := by simp; omega
        have hyy : y = true := by
          rw [HY.out, decide_eq_true_eq]
          have h := hA.out
          rwa [List.take_of_length_le (by rw [conC_len, ← HN.out]; omega), List.take_of_length_le (by rw [conC_len, ← HM.out]; omega)] at h
        have HYY := Hid.mk' hyy
        clear hyy
        go_wp2_with fail
        go_ret
        exact ⟨ret_bool HYY.out.symm, H3⟩
  · have t0 : ((n : Int) != (m : Int)) = true := by simp; omega
    have hyy : y = false := by
      rw [HY.out, decide_eq_false_iff_not]
      intro h
      have := congrArg List.length h
      rw [conC_len, conC_len, ← HN.out, ← HM.out] at this
      exact hnm this
    have HYY := Hid.mk' hyy
    clear hyy hnm
    go_enter Try.func69, Try.ntmps69
    go_wp2_with fail
    go_ret
    exact ⟨ret_bool HYY.out.symm, H⟩
end Sh
/- The packer's reference: what it reads by, over the bytes that are left. -/
set_option linter.unusedVariables false
set_option linter.unusedSimpArgs false
namespace Sh
open Go Go.RowKit Go.Proofs
attribute [local go_sem ↓] Go.wp_at_zero Go.wp_at_succ
set_option maxHeartbeats 1000000
set_option maxRecDepth 100000

abbrev tR6 : TypeId := 167
def Pos (b : List UInt8) (at_ : Nat) (s : PSt) : Prop := at_ ≤ b.length ∧ b.drop at_ = s.1
theorem Pos.done {b : List UInt8} {at_ : Nat} {s : PSt} (h : Pos b at_ s) : (at_ = b.length) ↔ s.1 = [] := by
  obtain ⟨h1, h2⟩ := h
  rw [← h2, List.drop_eq_nil_iff]
  omega
theorem rr_num {w : World} {R : Snap} {L : Asrt} {p at_ : Nat} {v : Value} {b : List UInt8} {s : PSt} {k : Nat} (hk : wid k = k) (H : Holds w R (star (blk p #[v, .int .i64 at_, .bool s.2] tR6) L)) (hr : RdB R.cell? v b) (hp : Pos b at_ s) (hb : b.length ≤ 1000000) :
    Calls Try.prog 137 #[.pointer (some ⟨p, 0, none⟩), .int .i64 (k : Int)] w fun e w' => ∃ at' : Nat, e = .returned (.int .i64 ((pNum k s).1 : Nat)) ∧ Holds w' R (star (blk p #[v, .int .i64 at', .bool (pNum k s).2.2] tR6) L) ∧ Pos b at' (pNum k s).2 := by
  refine (refrnum_spec (k := (k : Int)) H hr hp.1 hb).mono ?_
  rintro e w2 ⟨rfl, H2⟩
  rw [hk, hp.2] at *
  refine ⟨_, rfl, H2, cutAt_le hp.1, ?_⟩
  rw [drop_cutAt, hp.2]; rfl
theorem rr_text {w : World} {R : Snap} {L : Asrt} {p at_ : Nat} {v : Value} {b : List UInt8} {s : PSt} (H : Holds w R (star (blk p #[v, .int .i64 at_, .bool s.2] tR6) L)) (hr : RdB R.cell? v b) (hp : Pos b at_ s) (hb : b.length ≤ 1000000) :
    Calls Try.prog 138 #[.pointer (some ⟨p, 0, none⟩)] w fun e w' => ∃ (o : Value) (at' : Nat), e = .returned o ∧ Holds w' R (star (rowB o (pText s).1) (star (blk p #[v, .int .i64 at', .bool (pText s).2.2] tR6) L)) ∧ Pos b at' (pText s).2 := by
  refine (refrtext_spec H hr hp.1 hb).mono ?_
  rintro e w2 ⟨o, rfl, H2⟩
  rw [hp.2] at *
  refine ⟨o, _, rfl, H2, cutAt_le (cutAt_le hp.1), ?_⟩
  rw [drop_cutAt, drop_cutAt, hp.2]; rfl
end Sh
/- sherdref18.Get. -/
set_option linter.unusedVariables false
set_option linter.unusedSimpArgs false
namespace Sh
open Go Go.RowKit Go.Proofs
attribute [local go_sem ↓] Go.wp_at_zero Go.wp_at_succ
set_option maxHeartbeats 1000000
set_option maxRecDepth 100000

theorem rr_raw {w : World} {R : Snap} {L : Asrt} {p at_ : Nat} {v : Value} {b : List UInt8} {s : PSt} (H : Holds w R (star (blk p #[v, .int .i64 at_, .bool s.2] tR6) L)) (hr : RdB R.cell? v b) (hp : Pos b at_ s) (hb : b.length ≤ 1000000) :
    Calls Try.prog 152 #[.pointer (some ⟨p, 0, none⟩), .int .i64 64] w fun e w' => ∃ (o : Value) (at' : Nat), e = .returned o ∧ Holds w' R (star (rowB o (pRaw 64 s).1) (star (blk p #[v, .int .i64 at', .bool (pRaw 64 s).2.2] tR6) L)) ∧ Pos b at' (pRaw 64 s).2 := by
  refine (refraw_spec (n := 64) H hr hp.1 hb).mono ?_
  rintro e w2 ⟨o, rfl, H2⟩
  rw [hp.2] at *
  refine ⟨o, _, rfl, H2, cutAt_le hp.1, ?_⟩
  rw [drop_cutAt, hp.2]; rfl
set_option maxHeartbeats 8000000
theorem chRGet_spec {w : World} {R : Snap} {L : Asrt} {v : Value} {ss : List (Value × List UInt8)} (H : Holds w R L) (hr : RdBB R.cell? v ss) (hn : ss.length ≤ 50) (hlen : ∀ x ∈ ss, x.2.length ≤ 1000000) :
    Calls Try.prog 70 #[v] w fun e w' => ∃ (R' : Snap) (o : Value) (cs : List Ch) (ok : Bool), e = .returned (.tuple #[o, .bool ok]) ∧ R.le R' ∧ GotC (ss.map Prod.snd) (conC cs) ok ∧ RdC R'.cell? o cs ∧ SzC cs ∧ Holds w' R' L := by
  obtain ⟨bss, hbss⟩ : ∃ bss, bss = ss.map Prod.snd := ⟨_, rfl⟩
  rw [← hbss]
  obtain ⟨B1, hB1⟩ : ∃ B1, B1 = bss.drop 1 := ⟨_, rfl⟩
  obtain ⟨a, c, rfl⟩ := hr.form
  obtain ⟨N, hN⟩ : ∃ N, N = ss.length := ⟨_, rfl⟩
  have HR := Hid.mk' hr
  have HN := Hid.mk' hN
  have HBS := Hid.mk' hbss
  have HLN := Hid.mk' hlen
  have HB1 := Hid.mk' hB1
  have hb1l : B1.length = N - 1 := by rw [hB1, List.length_drop, hbss, List.length_map, hN]
  have HB1L := Hid.mk' hb1l
  rw [← hN] at hn ⊢
  clear hr hN hbss hlen hB1 hb1l
  have HSAY : Hid (∀ E, checkC E = 0 → putC E <+: bss → ∃ junk, chs ((B1.filter openOk).flatMap txt2) = (E, (junk, false))) := Hid.mk' (fun E h1 h2 => by
    obtain ⟨s0, rest, e, _, _, _, _, junk, hj⟩ := putC_says h1 h2
    have hb : B1 = rest := by rw [HB1.out, e]; rfl
    exact ⟨junk, by rw [hb, hj, chs_text h1]⟩)
  go_enter Try.func70, Try.ntmps70
  go_wp2_with fail
  go_loopw [4, 5] (fun o i wx => ∃ j q : Nat, i = .int .i64 (q : Int) ∧ q = j + 1 ∧ j ≤ B1.length ∧ Holds wx R (star (rowB o (((B1.take j).filter openOk).flatMap txt2)) L)) (fun _ i _ => N + 1 - (intOf i).toNat)
  case atStart => exact ⟨0, 1, rfl, rfl, Nat.zero_le _, H.nilRow _ 1⟩
  case round =>
    clear H
    obtain ⟨j, q, rfl, hq, hj, H3⟩ := hrel
    have HQ := Hid.mk' hq
    by_cases hlt : q < N
    · have d1 : decide ((q : Int) < (N : Int)) = true := by simp; omega
      have d1n : decide (q < N) = true := by simp; omega
      have hqs : q < ss.length := by rw [← HN.out]; exact hlt
      obtain ⟨b2, o2, ha2, hc2, hq2⟩ := RdBB.at HR.out hqs
      subst ha2
      replace hc2 := H3.cell hc2
      have hjB : j < B1.length := by rw [HB1L.out]; omega
      have gy : B1[j] = ss[q].2 := by
        have h1 : B1[j]? = some ss[q].2 := by rw [HB1.out, List.getElem?_drop, HBS.out, List.getElem?_map, show 1 + j = q by omega, List.getElem?_eq_getElem hqs]; rfl
        rw [List.getElem?_eq_getElem hjB] at h1
        exact Option.some.inj h1
      have HGY : Hid (∀ h : j < B1.length, B1[j] = ss[q].2) := Hid.mk' (fun _ => gy)
      have HJB := Hid.mk' hjB
      generalize ss[q] = xy at *
      obtain ⟨vy, y⟩ := xy
      simp only at hc2 hq2
      obtain ⟨ay, cy, rfl⟩ := hq2.form
      have HQ2 := Hid.mk' hq2
      have j1 : (0 : Int) ≤ (q : Int) := by omega
      have j2 : (q : Int) < (N : Int) := by omega
      clear hq2 gy hjB hqs hq
      go_wp2_with fail
      refine (rsopen_spec H3 HQ2.out).mono ?_
      rintro e w4 ⟨o4, rfl, H4⟩
      obtain ⟨oky, hoy⟩ : ∃ b, openOk y = b := ⟨_, rfl⟩
      have HOY := Hid.mk' hoy
      rw [hoy]
      clear hoy H3 hc2
      cases oky with
      | false =>
        go_wp2_with fail
        go_roundw
        case rel =>
          refine ⟨j + 1, q + 1, by go_num, by have := HQ.out; omega, HJB.out, ?_⟩
          rw [List.take_succ_eq_append_getElem HJB.out, List.filter_append, HGY.out, List.filter_cons_of_neg (by rw [HOY.out]; decide), List.filter_nil, List.append_nil]
          exact H4.drop
        case measure => simp [intOf]; omega
      | true =>
        obtain ⟨R5, le5, H5, hr5⟩ := H4.freezeRow
        obtain ⟨pl, hpl⟩ : ∃ pl, pl = openP y := ⟨_, rfl⟩
        have hl60 := openOk_len HOY.out
        rw [← hpl] at hl60
        replace hr5 : RdB R5.cell? o4 pl := by rw [hpl]; exact hr5
        obtain ⟨a4, c4, rfl⟩ := hr5.form
        have hB1 : 60 ≤ c4 := by have := hr5.bounds; omega
        have hsub := RdB.sub hr5 2 60 c4 (by decide) (by omega) (by omega) (Nat.le_refl _)
        rw [List.take_of_length_le (by rw [List.length_drop]; omega)] at hsub
        have htx : pl.drop 2 = txt2 y := by rw [hpl]; rfl
        rw [htx] at hsub
        have hln : (((B1.take j).filter openOk).flatMap txt2).length ≤ 3000 := by
          have h1 := flat2_len ((B1.take j).filter openOk)
          have h2 := List.length_filter_le openOk (B1.take j)
          have h3 : (B1.take j).length ≤ 49 := by rw [List.length_take, HB1L.out]; omega
          omega
        have hty := txt2_len y
        have HSUB := Hid.mk' hsub
        simp only [hl60]
        clear H4 htx hpl hr5 hl60 hsub
        go_wp2_with (with_reducible refine stop_append ?_)
        refine Hold.go (wpList_appendB (l := ((B1.take j).filter openOk).flatMap txt2) (k := txt2 y) rfl _ _ rfl rfl rfl H5 (Rd.world HSUB.out H5) (by omega) ?_)
        intro v9 w9 H9
        go_wp2_with fail
        go_roundw
        case rel =>
          refine ⟨j + 1, q + 1, by go_num, by have := HQ.out; omega, HJB.out, ?_⟩
          rw [List.take_succ_eq_append_getElem HJB.out, List.filter_append, HGY.out, List.filter_cons_of_pos HOY.out, List.filter_nil, List.flatMap_append, List.flatMap_cons, List.flatMap_nil, List.append_nil]
          exact H9.weaken le5
        case measure => simp [intOf]; omega
    · have d1 : decide ((q : Int) < (N : Int)) = false := by simp; omega
      have d1n : decide (q < N) = false := by simp; omega
      have hjn : B1.length ≤ j := by rw [HB1L.out]; omega
      rw [List.take_of_length_le hjn] at H3
      obtain ⟨T, hT⟩ : ∃ T, T = (B1.filter openOk).flatMap txt2 := ⟨_, rfl⟩
      rw [← hT] at H3 HSAY
      have hTl : T.length ≤ 2900 := by
        have h1 := flat2_len (B1.filter openOk)
        have h2 := List.length_filter_le openOk B1
        rw [HB1L.out] at h2
        rw [hT]; omega
      obtain ⟨R4, le4, H4, hr4⟩ := H3.freezeRow
      obtain ⟨aT, cT, rfl⟩ := hr4.form
      have HRT := Hid.mk' hr4
      have HTL := Hid.mk' hTl
      have hp4 : Pos T 0 (T, false) := ⟨Nat.zero_le _, rfl⟩
      obtain ⟨TL, hTL⟩ : ∃ n, n = T.length := ⟨_, rfl⟩
      have HTN := Hid.mk' hTL
      rw [← hTL]
      have hrT : RdB R4.cell? (.slice aT TL cT) T := by rw [hTL]; exact hr4
      have HRTN := Hid.mk' hrT
      clear H3 hT hr4 hjn hj hTl hTL hrT hq
      go_upto_region 9 with fail
      have H5 := H4.alloc #[.slice aT TL cT, .int .i64 0, .bool false] tR6
      generalize (World.alloc ..) = w5 at H5 ⊢
      generalize wr.heap.size = p8 at H5 ⊢
      clear H4
      go_wp2_with fail
      refine (rr_num (s := (T, false)) (k := 2) (at_ := 0) (by decide) H5 HRTN.out hp4 (by have := HTL.out; omega)).mono ?_
      rintro e w6 ⟨at6, rfl, H6, hp6⟩
      have hk6 := pNum2_lt (T, false)
      have hl6 := pNum_le 2 (T, false)
      obtain ⟨a1, ha⟩ : ∃ a, a = pNum 2 (T, false) := ⟨_, rfl⟩
      have HCH : Hid (chs T = chsP a1.1 a1.2 []) := Hid.mk' (by rw [ha]; rfl)
      rw [← ha] at H6 hp6 hk6 hl6 ⊢
      have HEA : Hid (Eaten T.length 0 a1.2) := Hid.mk' ⟨by omega, fun _ => by simp only at hl6; omega⟩
      obtain ⟨n0, hn0⟩ : ∃ n, n = a1.1 := ⟨_, rfl⟩
      rw [← hn0] at hk6 HCH ⊢
      have HP6 := Hid.mk' hp6
      clear H5 hp4 ha hl6 hn0 hp6
      go_wp2_with fail
      go_loopw [10, 11] (fun o i wx => ∃ (i' k at' : Nat) (s : PSt) (R' : Snap) (cs : List Ch), i = .int .i64 (i' : Int) ∧ i' + k = n0 ∧ R4.le R' ∧ Hid (chs T = chsP k s (conC cs)) ∧ Hid (Eaten T.length cs.length s) ∧ Hid (Pos T at' s) ∧ Hid (∀ x ∈ cs, x.data.length ≤ 64) ∧ Hid (∀ x ∈ cs, RdB R'.cell? x.v x.data) ∧ Holds wx R' (star (row tChg 2 o cs.length (cs.flatMap Ch.cells)) (star (blk p8 #[.slice aT TL cT, .int .i64 (at' : Int), .bool s.2] tR6) L))) (fun _ i _ => n0 - (intOf i).toNat)
      case atStart => exact ⟨0, n0, at6, a1.2, R4, [], rfl, by omega, Snap.le.refl _, HCH, HEA, HP6, Hid.mk' (fun _ h => by cases h), Hid.mk' (fun _ h => by cases h), H6.nilRow _ 2⟩
      case round =>
        clear H6 HCH HEA HP6
        obtain ⟨i', k, at', s, R7, cs, rfl, hik, le7, hC, hE, hP, hD, hRD, H7⟩ := hrel
        obtain ⟨ao, co, rfl⟩ := H7.rowRd.form
        have hcl : cs.length ≤ 985 := by have := hE.out.1; have := HTL.out; omega
        obtain ⟨l8, n8, c8, z8⟩ := Holds.facts (H7.swap)
        by_cases hk0 : i' < n0
        · have d2 : decide ((i' : Int) < (n0 : Int)) = true := by simp; omega
          have d2n : decide (i' < n0) = true := by simp; omega
          obtain ⟨m, rfl⟩ : ∃ m, k = m + 1 := ⟨k - 1, by omega⟩
          obtain ⟨sb, hsb⟩ : ∃ x, s.2 = x := ⟨_, rfl⟩
          have HSB := Hid.mk' hsb
          cases sb with
          | true =>
            have HCC : Hid (chs T = (conC cs, s)) := Hid.mk' (by rw [hC.out, chsP_bad HSB.out])
            rw [hsb] at c8
            clear hsb
            go_wp2_with fail
            go_ret2
            exact ⟨R7, .slice none 0 0, [], false, rfl, le4.trans le7, .inr ⟨rfl, rfl, fun E h1 h2 => by
              obtain ⟨junk, hj⟩ := HSAY.out E h1 h2
              rw [HCC.out] at hj
              have h3 := (Prod.mk.inj hj).2
              have h4 := HSB.out
              rw [h3] at h4
              cases h4⟩, ⟨Rd.nil, fun _ h => by cases h⟩, ⟨Nat.zero_le _, fun _ h => by cases h⟩, H7.drop.drop⟩
          | false =>
            rw [hsb] at c8
            clear hsb
            go_wp2_with fail
            refine (rr_num (s := s) (k := 2) (at_ := at') (by decide) H7.swap (Rd.le HRTN.out le7) hP.out (by have := HTL.out; omega)).mono ?_
            rintro e w8 ⟨at8, rfl, H8, hp8⟩
            obtain ⟨a2, ha⟩ : ∃ a, a = pNum 2 s := ⟨_, rfl⟩
            rw [← ha] at H8 hp8 ⊢
            have A2 := Hid.mk' ha
            have HP8 := Hid.mk' hp8
            clear ha H7 hp8 l8 n8 c8 z8
            have H9 := (H8.alloc #[.int .i64 ((a2.1 : Nat) : Int), .slice none 0 0] tChg).swap
            go_upto_region 15 with fail
            generalize (World.alloc ..) = w9 at H9 ⊢
            generalize w8.heap.size = g at H9 ⊢
            clear H8
            go_wp2_with fail
            refine (rr_num (s := a2.2) (k := 1) (at_ := at8) (by decide) H9 (Rd.le HRTN.out le7) HP8.out (by have := HTL.out; omega)).mono ?_
            rintro e w10 ⟨at10, rfl, H10, hp10⟩
            obtain ⟨a3, ha⟩ : ∃ a, a = pNum 1 a2.2 := ⟨_, rfl⟩
            rw [← ha] at H10 hp10 ⊢
            have A3 := Hid.mk' ha
            have HP10 := Hid.mk' hp10
            have HE3 : Hid (Eaten T.length (cs.length + 1) a3.2) := Hid.mk' (by rw [ha, A2.out]; exact hE.out.num HSB.out)
            clear ha H9 hp10
            by_cases h1 : a3.1 = 1
            · have t1 : (((a3.1 : Nat) : Int) == 1) = true := by rw [beq_iff_eq]; omega
              have HC2 : Hid (chs T = chsP m (pRaw 64 a3.2).2 (conC cs ++ [(((a2.1 : Nat) : Int), (pRaw 64 a3.2).1)])) := Hid.mk' (by
                rw [hC.out, chsP_raw HSB.out (by rw [← A2.out, ← A3.out]; exact h1), ← A2.out, ← A3.out])
              have H1 := Hid.mk' h1
              clear h1
              go_wp2_with fail
              refine (rr_raw (s := a3.2) (at_ := at10) H10 (Rd.le HRTN.out le7) HP10.out (by have := HTL.out; omega)).mono ?_
              rintro e w11 ⟨o11, at11, rfl, H11, hp11⟩
              obtain ⟨R12, le12, H12, hr12⟩ := H11.freezeRow
              obtain ⟨qq, hq⟩ : ∃ q, q = pRaw 64 a3.2 := ⟨_, rfl⟩
              have HE4 : Hid (Eaten T.length (cs.length + 1) qq.2) := Hid.mk' (by rw [hq]; exact HE3.out.raw)
              have hq64 : qq.1.length ≤ 64 := by rw [hq]; exact cutOut_64 _ _
              rw [← hq] at HC2 hr12 H12 hp11
              obtain ⟨a12, c12, rfl⟩ := hr12.form
              have HR12 := Hid.mk' hr12
              have HP11 := Hid.mk' hp11
              have HQ64 := Hid.mk' hq64
              obtain ⟨ql, hqll⟩ : ∃ n, n = qq.1.length := ⟨_, rfl⟩
              have HQLL := Hid.mk' hqll
              rw [← hqll]
              clear H10 H11 hq hp11 hr12 hq64 hqll
              obtain ⟨l8, n8, c8, z8⟩ := Holds.facts (H12.swap)
              go_upto_region 17 with fail
              have H13 := (H12.swap.set 1 (.slice a12 ql c12))
              replace H13 : Holds _ R12 (star (blk g #[.int .i64 ((a2.1 : Nat) : Int), .slice a12 ql c12] tChg) (star (blk p8 #[.slice aT TL cT, .int .i64 (at11 : Int), .bool qq.2.2] tR6) (star (row tChg 2 (.slice ao cs.length co) cs.length (cs.flatMap Ch.cells)) L))) := H13
              generalize (World.setCell ..) = w13 at H13 ⊢
              clear l8 n8 c8 z8 H12
              have H10 := H13
              clear H13
              obtain ⟨l9, n9, c9, z9⟩ := Holds.facts (H10)
              go_upto_region 17 with fail
              go_wp2_with (with_reducible refine stop_append ?_)
              have H11 := H10.alloc #[.int .i64 ((a2.1 : Nat) : Int), .slice a12 ql c12] tChg
              have hr11 := (H11.toRow 2 1 1 (Nat.le_refl _) (by decide) rfl).rowRd
              refine Hold.go (wpList_append rfl _ _ rfl undChgs infoChg rfl (by decide) rfl rfl H11.drop.pick3 hr11 (by simp [Value.oneCell']) (by simp only [maxLen]; omega) (by omega) ?_)
              intro v12 w12 H12
              clear l9 n9 c9 z9 hr11 H11
              go_wp2_with fail
              go_roundw
              case rel =>
                refine ⟨i' + 1, m, at11, qq.2, R12, cs ++ [⟨((a2.1 : Nat) : Int), .slice a12 ql c12, qq.1⟩], by go_num, by omega, le7.trans le12, Hid.mk' ?_, Hid.mk' ?_, HP11, Hid.mk' (fun x hx => ?_), Hid.mk' (fun x hx => ?_), ?_⟩
                · rw [HC2.out]; simp [conC]
                · rw [List.length_append]; exact HE4.out
                · rcases List.mem_append.1 hx with h | h
                  · exact hD.out x h
                  · obtain rfl := List.mem_singleton.1 h
                    exact HQ64.out
                · rcases List.mem_append.1 hx with h | h
                  · exact Rd.le (hRD.out x h) le12
                  · obtain rfl := List.mem_singleton.1 h
                    have h2 := HR12.out
                    rw [← HQLL.out] at h2
                    show Rd R12.cell? 1 (.slice a12 ql c12) qq.1.length (u8s qq.1)
                    rw [← HQLL.out]
                    exact h2
                · rw [flat_snoc, List.length_append]
                  exact H12.swap.drop
              case measure => simp [intOf]; omega
            · have t1 : (((a3.1 : Nat) : Int) == 1) = false := by rw [beq_eq_false_iff_ne]; omega
              have HC2 : Hid (chs T = chsP m a3.2 (conC cs ++ [(((a2.1 : Nat) : Int), [])])) := Hid.mk' (by
                rw [hC.out, chsP_no HSB.out (by rw [← A2.out, ← A3.out]; exact h1), ← A2.out, ← A3.out])
              have H1 := Hid.mk' h1
              clear h1
              have H11 := H10.swap
              clear H10
              have H10 := H11
              clear H11
              obtain ⟨l9, n9, c9, z9⟩ := Holds.facts (H10)
              go_upto_region 17 with fail
              go_wp2_with (with_reducible refine stop_append ?_)
              have H11 := H10.alloc #[.int .i64 ((a2.1 : Nat) : Int), .slice none 0 0] tChg
              have hr11 := (H11.toRow 2 1 1 (Nat.le_refl _) (by decide) rfl).rowRd
              refine Hold.go (wpList_append rfl _ _ rfl undChgs infoChg rfl (by decide) rfl rfl H11.drop.pick3 hr11 (by simp [Value.oneCell']) (by simp only [maxLen]; omega) (by omega) ?_)
              intro v12 w12 H12
              clear l9 n9 c9 z9 hr11 H11
              go_wp2_with fail
              go_roundw
              case rel =>
                refine ⟨i' + 1, m, at10, a3.2, R7, cs ++ [⟨((a2.1 : Nat) : Int), .slice none 0 0, []⟩], by go_num, by omega, le7, Hid.mk' ?_, Hid.mk' ?_, HP10, Hid.mk' (fun x hx => ?_), Hid.mk' (fun x hx => ?_), ?_⟩
                · rw [HC2.out]; simp [conC]
                · rw [List.length_append]; exact HE3.out
                · rcases List.mem_append.1 hx with h | h
                  · exact hD.out x h
                  · obtain rfl := List.mem_singleton.1 h
                    exact Nat.zero_le _
                · rcases List.mem_append.1 hx with h | h
                  · exact hRD.out x h
                  · obtain rfl := List.mem_singleton.1 h
                    exact Rd.nil
                · rw [flat_snoc, List.length_append]
                  exact H12.swap.drop
              case measure => simp [intOf]; omega
        · have d2 : decide ((i' : Int) < (n0 : Int)) = false := by simp; omega
          have d2n : decide (i' < n0) = false := by simp; omega
          have hk00 : k = 0 := by omega
          have HCC : Hid (chs T = (conC cs, s)) := Hid.mk' (by rw [hC.out, hk00]; rfl)
          have HX := Hid.mk' hk00
          clear hk00
          obtain ⟨sb, hsb⟩ : ∃ x, s.2 = x := ⟨_, rfl⟩
          have HSB := Hid.mk' hsb
          rw [hsb] at c8
          cases sb with
          | true =>
            clear hsb
            go_wp2_with fail
            go_ret2
            exact ⟨R7, .slice none 0 0, [], false, rfl, le4.trans le7, .inr ⟨rfl, rfl, fun E h1 h2 => by
              obtain ⟨junk, hj⟩ := HSAY.out E h1 h2
              rw [HCC.out] at hj
              have h3 := (Prod.mk.inj hj).2
              have h4 := HSB.out
              rw [h3] at h4
              cases h4⟩, ⟨Rd.nil, fun _ h => by cases h⟩, ⟨Nat.zero_le _, fun _ h => by cases h⟩, H7.drop.drop⟩
          | false =>
            obtain ⟨R9, le9, H9, hr9⟩ := H7.freezeRow
            have HRC : Hid (RdC R9.cell? (.slice ao cs.length co) cs) := Hid.mk' ⟨hr9, fun x hx => Rd.le (hRD.out x hx) le9⟩
            have HSZ : Hid (SzC cs) := Hid.mk' ⟨by omega, fun x hx => by have := hD.out x hx; omega⟩
            clear l8 n8 c8 z8 hr9
            obtain ⟨l8, n8, c8, z8⟩ := Holds.facts (H9)
            rw [hsb] at c8
            go_wp2_with fail
            refine (chRAre_spec H9 (by have h := HR.out.le ((le4.trans le7).trans le9); rw [← HN.out] at h; exact h) HLN.out HRC.out HSZ.out).mono ?_
            rintro e w10 ⟨rfl, H10⟩
            rw [← HBS.out]
            obtain ⟨y, hy⟩ : ∃ y, decide (checkC (conC cs) = 0 ∧ putC (conC cs) <+: bss) = y := ⟨_, rfl⟩
            rw [hy]
            have HY := Hid.mk' hy
            clear hy
            cases y with
            | false =>
              go_wp2_with fail
              go_ret2
              exact ⟨R9, .slice none 0 0, [], false, rfl, (le4.trans le7).trans le9, .inr ⟨rfl, rfl, fun E h1 h2 => by
                obtain ⟨junk, hj⟩ := HSAY.out E h1 h2
                rw [HCC.out] at hj
                have h3 := (Prod.mk.inj hj).1
                have h4 := of_decide_eq_false HY.out
                rw [h3] at h4
                exact h4 ⟨h1, h2⟩⟩, ⟨Rd.nil, fun _ h => by cases h⟩, ⟨Nat.zero_le _, fun _ h => by cases h⟩, H10.drop⟩
            | true =>
              go_wp2_with fail
              go_ret2
              exact ⟨R9, _, cs, true, rfl, (le4.trans le7).trans le9, .inl ⟨rfl, (of_decide_eq_true HY.out).1, (of_decide_eq_true HY.out).2⟩, HRC.out, HSZ.out, H10.drop⟩
end Sh
/- sherdref19.Again. -/
set_option linter.unusedVariables false
set_option linter.unusedSimpArgs false
namespace Sh
open Go Go.RowKit Go.Proofs
attribute [local go_sem ↓] Go.wp_at_zero Go.wp_at_succ
set_option maxHeartbeats 1000000
set_option maxRecDepth 100000

set_option maxHeartbeats 4000000
theorem rjagain_spec {w : World} {R : Snap} {L : Asrt} {p : Nat} {st : DSt} (H : Holds w R (star (mA p st) L)) (h64 : S64 st) (hl : st.1.length ≤ 1000) :
    Calls Try.prog 99 #[.pointer (some ⟨p, 0, none⟩)] w fun e w' => ∃ (R' : Snap) (o : Value) (ds : List Ch) (E : List En) (ok : Bool), e = .returned o ∧ GotC (jS st.1) E ok ∧ R.le R' ∧ RdC R'.cell? o ds ∧ conC ds = againW st.1 E ∧ ds.length ≤ 2000 ∧ Holds w' R' (star (mA p st) L) := by
  obtain ⟨S, left, dead⟩ := st
  simp only [S64] at h64 hl
  obtain ⟨N, hN⟩ : ∃ N, N = S.length := ⟨_, rfl⟩
  obtain ⟨m, hm⟩ : ∃ m, m = min 34 N := ⟨_, rfl⟩
  have HN := Hid.mk' hN
  have HS := Hid.mk' h64
  have HLL : Hid (S.length ≤ 1000) := Hid.mk' hl
  have HJ : Hid ((jS S).length + 1 = m ∨ N = 0) := Hid.mk' (by rw [jS_len]; omega)
  have hN9 : N ≤ 1000 := by omega
  have hm34 : m ≤ 34 := by omega
  have hmN : m ≤ N := by omega
  have HM := Hid.mk' hm
  clear h64 hN hm hl
  go_enter Try.func99, Try.ntmps99
  go_wp2_with fail
  go_loopw [3, 4] (fun o i wx => ∃ (j k : Nat) (q : List (Value × List UInt8)), i = .int .i64 (k : Int) ∧ k = j + 1 ∧ (j = 0 ∨ k ≤ m) ∧ q.length = j ∧ Hid (q.map Prod.snd = (S.drop 1).take j) ∧ Holds wx R (star (row tBytes 1 o q.length (q.map Prod.fst)) (star (bytesAll q) (star (mS p S left dead) L)))) (fun _ i _ => 40 - (intOf i).toNat)
  case atStart => exact ⟨0, 1, [], rfl, rfl, .inl rfl, rfl, Hid.mk' (by simp), by
    show Holds w R (star (row tBytes 1 (.slice none 0 0) 0 []) (star emp (star (mS p S left dead) L)))
    rw [emp_star]
    exact H.nilRow _ 1⟩
  case round =>
    clear H
    obtain ⟨j, k, q, rfl, hk, hkm, hql, hq, H3⟩ := hrel
    have HK := Hid.mk' hk
    have HQL := Hid.mk' hql
    have HKM := Hid.mk' hkm
    have hj40 : q.length ≤ 40 := by omega
    clear hk hql hkm
    obtain ⟨b, hb⟩ : ∃ b, decide (k < m) = b := ⟨_, rfl⟩
    have HBB := Hid.mk' hb
    clear hb
    go_upto_region 3 with fail
    go_cut [15] from 9 to 23 (fun c wx => c = .bool b ∧ Holds wx R (star (row tBytes 1 u3 q.length (q.map Prod.fst)) (star (bytesAll q) (star (mS p S left dead) L))))
    case first =>
      by_cases h34 : k < 34
      · have d1 : decide ((k : Int) < 34) = true := by simp; omega
        have HD : Hid (decide (0 ≤ (k : Int) ∧ (k : Int) < (S.length : Int)) = b) := Hid.mk' (by
          rw [← HBB.out]
          have h1 := HM.out
          have h2 := HN.out
          exact decide_eq_decide.2 (by omega))
        clear h34
        go_wp2_with fail
        refine (is_spec H3.pick3 HS.out HLL.out).mono ?_
        rintro e w4 ⟨rfl, rfl⟩
        rw [HD.out]
        cases b with
        | true =>
          go_wp2_with fail
          go_meet
          case rel => exact ⟨rfl, H3⟩
        | false =>
          go_wp2_with fail
          go_meet
          case rel => exact ⟨rfl, H3⟩
      · have d1 : decide ((k : Int) < 34) = false := by simp; omega
        have hbf : b = false := by rw [← HBB.out]; exact decide_eq_false (by omega)
        clear h34
        subst hbf
        go_wp2_with fail
        go_meet
        case rel => exact ⟨rfl, H3⟩
    clear H3
    obtain ⟨rfl, H3⟩ := hcut
    cases b with
    | true =>
      have hlt := of_decide_eq_true HBB.out
      go_wp2_with fail
      refine (mread_spec (i := (k : Nat)) H3.pick3 HS.out HLL.out).mono ?_
      rintro e w5 ⟨o5, rfl, H5⟩
      rw [secAt_nat] at H5
      obtain ⟨s5, hs5⟩ : ∃ s, s = S.getD k [] := ⟨_, rfl⟩
      rw [← hs5] at H5
      have HS5 := Hid.mk' hs5
      obtain ⟨a5, c5, rfl⟩ := H5.rowRd.form
      clear hs5 H3
      go_wp2_with (with_reducible refine stop_append ?_)
      have H6 := H5.alloc #[.slice a5 s5.length c5] tBytes
      have hr6 : Rd _ 1 _ 1 _ := (H6.toRow 1 1 1 (Nat.le_refl _) (by simp [maxLen]) rfl).rowRd
      have H7 : Holds _ R (star (row tBytes 1 u3 q.length (q.map Prod.fst)) (star (bytesAll q) (star (rowB (.slice a5 s5.length c5) s5) (star (mS p S left dead) L)))) := H6.drop.ac (by ac_rfl)
      refine Hold.go (wpList_append rfl _ _ rfl undSecs infoBytes rfl (by decide) rfl rfl H7 hr6 (by simp [Value.oneCell']) (by simp only [maxLen]; omega) (by omega) ?_)
      intro v8 w8 H8
      clear H5 H6 H7 hr6
      go_wp2_with fail
      go_roundw
      case rel =>
        refine ⟨j + 1, k + 1, q ++ [(.slice a5 s5.length c5, s5)], by go_num, by have := HK.out; omega, .inr hlt, by rw [List.length_append, HQL.out]; rfl, Hid.mk' ?_, ?_⟩
        · have hjl : j < (S.drop 1).length := by rw [List.length_drop, ← HN.out]; have := HK.out; omega
          rw [List.map_append, hq.out, List.take_succ_eq_append_getElem hjl]
          congr 1
          have h1 : (S.drop 1)[j] = S.getD k [] := by
            rw [List.getElem_drop, List.getD_eq_getElem?_getD, List.getElem?_eq_getElem (by rw [← HN.out]; omega)]
            have := HK.out
            simp only [Option.getD_some]
            congr 1
            omega
          rw [h1, ← HS5.out]; rfl
        · simp only [List.map_append, List.length_append, List.length_singleton, List.map_cons, List.map_nil, bytesAll_append, bytesAll_one]
          exact H8.ac (by ac_rfl)
      case measure => simp [intOf]; omega
    | false =>
      have hlt := of_decide_eq_false HBB.out
      have hJL : (S.drop 1).take j = jS S := by
        rw [jS]
        have h1 := HK.out
        have h2 := HKM.out
        have h3 := HJ.out
        rw [jS_len, ← HN.out] at h3
        by_cases h4 : j = 33
        · rw [h4]
        · rw [List.take_of_length_le (by rw [List.length_drop, ← HN.out]; omega), List.take_of_length_le (by rw [List.length_drop, ← HN.out]; omega)]
      obtain ⟨R5, le5, H5, hqq⟩ := freezeBB H3
      obtain ⟨aq, cq, rfl⟩ := hqq.form
      obtain ⟨xs, hxs⟩ : ∃ xs, xs = jS S := ⟨_, rfl⟩
      have hqx : q.map Prod.snd = xs := by rw [hq.out, hJL, hxs]
      obtain ⟨n, hn⟩ : ∃ n, n = q.length := ⟨_, rfl⟩
      have hn33 : n ≤ 33 := by
        have h := congrArg List.length hqx
        rw [List.length_map, hxs, jS_len] at h
        omega
      have hlens : ∀ x ∈ q, x.2.length ≤ 1000000 := by
        intro x hx
        have h1 : x.2 ∈ xs := by rw [← hqx]; exact List.mem_map_of_mem hx
        rw [hxs, jS] at h1
        rw [HS.out _ (List.mem_of_mem_drop (List.mem_of_mem_take h1))]; decide
      have HLENS := Hid.mk' hlens
      have HXS := Hid.mk' hxs
      have HQX := Hid.mk' hqx
      have HQN := Hid.mk' hn
      have HQQ : Hid (RdBB R5.cell? (.slice aq n cq) q) := Hid.mk' (by rw [hn]; exact hqq)
      have HXN : Hid (n = xs.length) := Hid.mk' (by rw [hn, ← hqx, List.length_map])
      rw [← hn]
      clear hJL hqq hxs hqx hlt hn H3 hlens hj40
      go_wp2_with fail
      refine (chRGet_spec H5 HQQ.out (by rw [← HQN.out]; omega) HLENS.out).mono ?_
      rintro e w6 ⟨R6, o6, cs, ok, rfl, le6, hG, hRC, hSZ, H6⟩
      rw [HQX.out] at hG
      obtain ⟨ac, cc, rfl⟩ := hRC.form
      obtain ⟨n3, hn3⟩ : ∃ n, n = cs.length := ⟨_, rfl⟩
      have HN3 := Hid.mk' hn3
      have HG := Hid.mk' hG
      have HRC : Hid (RdC R6.cell? (.slice ac n3 cc) cs) := Hid.mk' (by rw [hn3]; exact hRC)
      have HSZ := Hid.mk' hSZ
      obtain ⟨X, hX⟩ : ∃ X, X = (if thereC N (conC cs) = true then conC cs else []) := ⟨_, rfl⟩
      have HX := Hid.mk' hX
      have HAG : Hid (againW S (conC cs) = X ++ clrN xs n) := Hid.mk' (by rw [againW, ← HN.out, ← hX, ← HXS.out, HXN.out])
      have hn39 : n3 ≤ 1000 := by rw [hn3]; exact hSZ.1
      have leA := le5.trans le6
      rw [← hn3]
      clear H5 hG hRC hSZ hn3 hX
      go_upto_region 8 with fail
      go_cut [39] (fun c wx => ∃ b0 : Bool, c = .bool b0 ∧ (b0 = true → X = conC cs) ∧ (b0 = false → X = []) ∧ Holds wx R6 (star (mS p S left dead) L))
      case first =>
        cases ok with
        | false =>
          have hXX : X = [] := by
            rw [HX.out]
            rcases HG.out with ⟨h, _⟩ | ⟨_, h, _⟩
            · cases h
            · rw [h]; split <;> rfl
          have HXX := Hid.mk' hXX
          clear hXX
          go_wp2_with fail
          go_meet
          case rel => exact ⟨false, rfl, (fun h => by cases h), (fun _ => HXX.out), H6⟩
        | true =>
          obtain ⟨am, cm, H7⟩ := m_open H6
          have hf := flatten_len HS.out
          obtain ⟨nf, hnf⟩ : ∃ n, n = S.flatten.length := ⟨_, rfl⟩
          have hq64 : (nf : Int) / 64 = (N : Int) := by have := HN.out; omega
          obtain ⟨l1, n1, c1, z1⟩ := Holds.facts (H7)
          rw [← hnf] at c1
          clear hf hnf
          go_wp2_with fail
          refine (rthere_spec (N := N) H6 HRC.out (by have := HSZ.out.1; omega)).mono ?_
          rintro e w7 ⟨rfl, rfl⟩
          obtain ⟨th, hth⟩ : ∃ b, thereC N (conC cs) = b := ⟨_, rfl⟩
          rw [hth]
          have HTH := Hid.mk' hth
          clear hth H7
          cases th with
          | true =>
            go_wp2_with fail
            go_meet
            case rel => exact ⟨true, rfl, (fun _ => by rw [HX.out, if_pos HTH.out]), (fun h => by cases h), H6⟩
          | false =>
            go_wp2_with fail
            go_meet
            case rel => exact ⟨false, rfl, (fun h => by cases h), (fun _ => by rw [HX.out, if_neg (by rw [HTH.out]; decide)]), H6⟩
      clear H6
      obtain ⟨b0, rfl, hb1, hb2, H6⟩ := hcut
      have HB1 := Hid.mk' hb1
      have HB2 := Hid.mk' hb2
      clear hb1 hb2
      rename_i K9 hK9
      refine hK9 _ _ ?_
      clear hK9 K9
      go_cut [7] (fun c wx => ∃ (D : Nat) (ds : List Ch), Hid (conC ds = X ∧ ds.length = D ∧ (∀ x ∈ ds, RdB R6.cell? x.v x.data)) ∧ D ≤ 1000 ∧ Holds wx R6 (star (row tChg 2 c D (ds.flatMap Ch.cells)) (star (mS p S left dead) L)))
      case first =>
        cases b0 with
        | false =>
          go_wp2_with fail
          go_meet
          case rel => exact ⟨0, [], Hid.mk' ⟨(HB2.out (by first | rfl | trivial)).symm, rfl, (fun _ h => by cases h)⟩, Nat.zero_le _, H6.nilRow _ 2⟩
        | true =>
          have HR5 : Hid (Rd R6.cell? 2 (.slice ac n3 cc) n3 (cs.flatMap Ch.cells)) := Hid.mk' (by have h := HRC.out.1; rw [← HN3.out] at h; exact h)
          go_wp2_with (with_reducible refine stop_append ?_)
          refine Hold.go (wpList_append (t := 93) (e := tChg) (n := 0) (xs := []) rfl _ _ rfl undChgs infoChg rfl (by decide) rfl rfl (H6.nilRow tChg 2) (Rd.world HR5.out H6) (cells_one HRC.out.2) (by simp only [maxLen]; omega) (by omega) ?_)
          intro v9 w9 H9
          rw [Nat.zero_add, List.nil_append] at H9
          obtain ⟨a9, c9, rfl⟩ := H9.rowRd.form
          go_wp2_with fail
          go_meet
          case rel => exact ⟨n3, cs, Hid.mk' ⟨(HB1.out (by first | rfl | trivial)).symm, HN3.out.symm, HRC.out.2⟩, hn39, H9⟩
      clear H6
      obtain ⟨D0, ds0, hds0, hD0, H9⟩ := hcut
      obtain ⟨a9, c9, rfl⟩ := H9.rowRd.form
      go_wp2_with fail
      go_loopw [7, 8] (fun d i wx => ∃ (i' D : Nat) (ds : List Ch), i = .int .i64 (i' : Int) ∧ i' ≤ n ∧ D ≤ 1000 + i' ∧ Hid (conC ds = X ++ clrN xs i' ∧ ds.length = D ∧ (∀ x ∈ ds, RdB R6.cell? x.v x.data)) ∧ Holds wx R6 (star (row tChg 2 d D (ds.flatMap Ch.cells)) (star (mS p S left dead) L))) (fun _ i _ => n - (intOf i).toNat)
      case atStart => exact ⟨0, D0, ds0, rfl, Nat.zero_le _, hD0, Hid.mk' (by have h := hds0.out; simpa [clrN] using h), H9⟩
      case round =>
        clear H9
        obtain ⟨i', D, ds, rfl, hi, hD, HA, H10⟩ := hrel
        obtain ⟨ad, cd, rfl⟩ := H10.rowRd.form
        by_cases hlt : i' < n
        · have d1 : decide ((i' : Int) < (n : Int)) = true := by simp; omega
          have hjq : i' < q.length := by rw [← HQN.out]; exact hlt
          have hqq' := HQQ.out
          rw [HQN.out] at hqq'
          obtain ⟨b2, o2, ha2, hc2, hq2⟩ := RdBB.at hqq' hjq
          subst ha2
          replace hc2 := H10.cell (le6.cell hc2)
          have gy : xs.getD i' [] = q[i'].2 := by
            rw [List.getD_eq_getElem?_getD, ← HQX.out, List.getElem?_map, List.getElem?_eq_getElem hjq]; rfl
          have HGY := Hid.mk' gy
          generalize q[i'] = xy at *
          obtain ⟨vy, y2⟩ := xy
          simp only at hc2 hq2
          obtain ⟨ay, cy, rfl⟩ := hq2.form
          have HQ2 := Hid.mk' (Rd.le hq2 le6)
          have i1 : (0 : Int) ≤ (i' : Int) := by omega
          have i2 : (i' : Int) < (n : Int) := by omega
          clear hq2 gy hjq hqq'
          go_wp2_with fail
          refine (rsclear_spec (Rd.world HQ2.out H10)).mono ?_
          rintro e w7 ⟨rfl, rfl⟩
          obtain ⟨cl, hcl⟩ : ∃ b, clearB y2 = b := ⟨_, rfl⟩
          rw [hcl]
          have HCL := Hid.mk' hcl
          clear hc2 hcl
          cases cl with
          | true =>
            go_wp2_with fail
            go_roundw
            case rel =>
              refine ⟨i' + 1, D, ds, by go_num, hlt, by omega, Hid.mk' ⟨?_, HA.out.2⟩, H10⟩
              rw [clrN_succ, HGY.out, if_pos HCL.out, List.append_nil]
              exact HA.out.1
            case measure => simp [intOf]; omega
          | false =>
            obtain ⟨m1, hm1⟩ : ∃ m, m = 1 + i' := ⟨_, rfl⟩
            have ha1 : (1 : Int) + (i' : Int) = (m1 : Int) := by omega
            have HM1 := Hid.mk' hm1
            clear hm1
            go_wp2_with (with_reducible refine stop_append ?_)
            have H11 := H10.alloc #[.int .i64 (m1 : Int), .slice none 0 0] tChg
            have hr11 := (H11.toRow 2 1 1 (Nat.le_refl _) (by decide) rfl).rowRd
            refine Hold.go (wpList_append rfl _ _ rfl undChgs infoChg rfl (by decide) rfl rfl H11.drop hr11 (by simp [Value.oneCell']) (by simp only [maxLen]; omega) (by omega) ?_)
            intro v12 w12 H12
            clear H10 H11 hr11
            go_wp2_with fail
            go_roundw
            case rel =>
              obtain ⟨h1, h2, h3⟩ := HA.out
              refine ⟨i' + 1, D + 1, ds ++ [⟨(m1 : Int), .slice none 0 0, []⟩], by go_num, hlt, by omega, Hid.mk' ⟨?_, ?_, ?_⟩, ?_⟩
              · rw [conC_snoc, h1, clrN_succ, HGY.out, if_neg (by rw [HCL.out]; decide), HM1.out, List.append_assoc]
              · rw [List.length_append, h2]; rfl
              · intro x hx
                rcases List.mem_append.1 hx with hx | hx
                · exact h3 x hx
                · obtain rfl := List.mem_singleton.1 hx
                  exact Rd.nil
              · rw [List.flatMap_append]
                exact H12
            case measure => simp [intOf]; omega
        · have d1 : decide ((i' : Int) < (n : Int)) = false := by simp; omega
          obtain rfl : i' = n := by omega
          obtain ⟨R13, le13, H13, hr13⟩ := H10.freezeRow
          have HR13 := Hid.mk' hr13
          clear H10 hr13
          go_wp2_with fail
          go_ret
          refine ⟨R13, _, ds, conC cs, ok, rfl, by have h := HG.out; rw [HXS.out] at h; exact h, leA.trans le13, ⟨?_, fun x hx => Rd.le (HA.out.2.2 x hx) le13⟩, ?_, by rw [HA.out.2.1]; omega, H13⟩
          · rw [HA.out.2.1]; exact HR13.out
          · rw [HAG.out]; exact HA.out.1
end Sh
