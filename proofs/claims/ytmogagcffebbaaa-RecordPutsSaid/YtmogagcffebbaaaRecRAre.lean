/- sherdref20.Are, Count. -/
import Derived.Test.YtmogagcffebbaaaRecRPut
import Derived.Test.YtmogagcffebbaaaRecLaw
import Derived.Test.YtmogagcffebbaaaRecApartLaw
import Derived.BigQuiet
set_option linter.unusedVariables false
set_option linter.unusedSimpArgs false
namespace Sh
open Go Go.RowKit Go.Proofs
attribute [local go_sem ↓] Go.wp_at_zero Go.wp_at_succ
set_option maxHeartbeats 1000000
set_option maxRecDepth 100000

set_option maxHeartbeats 8000000
theorem rrecCount_spec {w : World} {R : Snap} {L : Asrt} (r : Rc) (H : Holds w R L) (hr : r.Rd R.cell?) (hz : r.Sz) :
    Calls Try.prog 84 #[.agg r.cells.toArray] w fun e w' => e = .returned (.int .i64 (((putR r).length : Nat) : Int)) ∧ Holds w' R L := by
  obtain ⟨y, hy⟩ : ∃ y, y = (putR r).length := ⟨_, rfl⟩
  rw [← hy]
  have hy2 : y = 1 + bodiesN r.share.length := by rw [hy, putR_len]
  obtain ⟨kind, name, attempt, epoch, mark, size, vs, share⟩ := r
  obtain ⟨z1, z2⟩ := hz
  have hs := hr
  simp only [Rc.Rd] at z1 z2 hs
  obtain ⟨as_, cs_, rfl⟩ := hs.form
  obtain ⟨n, hn⟩ : ∃ n, n = share.length := ⟨_, rfl⟩
  obtain ⟨R1, le1, H1, hb⟩ := H.allocR (.cells #[.int .i64 kind, .string name, .int .i64 attempt, .int .i64 epoch, .int .i64 mark, .int .i64 size, .slice as_ share.length cs_] tRec (0, 0))
  show Calls _ _ #[.agg #[.int .i64 kind, .string name, .int .i64 attempt, .int .i64 epoch, .int .i64 mark, .int .i64 size, .slice as_ share.length cs_]] _ _
  have hb' : R1.blk w.heap.size = some (.cells #[.int .i64 kind, .string name, .int .i64 attempt, .int .i64 epoch, .int .i64 mark, .int .i64 size, .slice as_ n cs_] tRec (0, 0)) := by rw [hn]; exact hb
  rw [← hn] at z2
  simp only [← hn] at H1 hy2 ⊢
  have HY := Hid.mk' hy2
  clear hs hr hy hb hn H hy2
  obtain ⟨l1, n1, c1⟩ := Holds.frzFacts (H1) hb'
  go_enter Try.func84, Try.ntmps84
  go_upto_region 1 with fail
  generalize (World.alloc ..) = w1 at H1 l1 n1 c1 ⊢
  generalize w.heap.size = g1 at hb' l1 n1 c1 ⊢
  go_wp2_with fail
  clear l1 n1 c1
  go_loopw [3, 4] (fun s3 i wx => ∃ j a : Nat, s3 = .int .i64 ((1 + j : Nat) : Int) ∧ i = .int .i64 (a : Int) ∧ a = 48 * j ∧ j ≤ bodiesN n ∧ Holds wx R1 L) (fun _ i _ => 48 * bodiesN n + 100 - (intOf i).toNat)
  case atStart => exact ⟨0, 0, rfl, rfl, rfl, Nat.zero_le _, H1⟩
  case round =>
    clear H1
    obtain ⟨j, a, rfl, rfl, ha, hj, H3⟩ := hrel
    obtain ⟨l1, n1, c1⟩ := Holds.frzFacts (H3) hb'
    by_cases hlt : a < n
    · have d1 : decide ((a : Int) < (n : Int)) = true := by simp; omega
      have d2 : decide (a < n) = true := by simp; omega
      have hjb : j + 1 ≤ bodiesN n := by unfold bodiesN; omega
      have HJB := Hid.mk' hjb
      have HA := Hid.mk' ha
      have ha9 : a ≤ 1000000 := by omega
      have hj9 : 1 + j ≤ 1000000 := by omega
      obtain ⟨k, hk⟩ : ∃ k, k = 1 + j := ⟨_, rfl⟩
      rw [← hk] at hj9 ⊢
      have HK := Hid.mk' hk
      clear hjb ha hj hk
      go_wp2_with fail
      go_roundw
      case rel => exact ⟨j + 1, a + 48, by rw [HK.out]; go_num, by go_num, by have := HA.out; omega, HJB.out, H3⟩
      case measure =>
        have := HJB.out
        have := HA.out
        simp [intOf]; omega
    · have d1 : decide ((a : Int) < (n : Int)) = false := by simp; omega
      have d2 : decide (a < n) = false := by simp; omega
      have hjj : y = 1 + j := by rw [HY.out]; unfold bodiesN at hj ⊢; omega
      have HJJ := Hid.mk' hjj
      clear hjj hj ha
      go_wp2_with fail
      go_ret
      exact ⟨by rw [HJJ.out]; rfl, H3.weaken le1⟩
theorem rrecAre_spec {w : World} {R : Snap} {L : Asrt} {v : Value} {ss : List (Value × List UInt8)} (r : Rc) (H : Holds w R L) (hv : RdBB R.cell? v ss) (hlen : ∀ x ∈ ss, x.2.length ≤ 1000000) (hr : r.Rd R.cell?) (hz : r.Sz) :
    Calls Try.prog 86 #[v, .agg r.cells.toArray] w fun e w' => e = .returned (.bool (decide (rcOk r = true ∧ putR r <+: ss.map Prod.snd))) ∧ Holds w' R L := by
  obtain ⟨y, hy⟩ : ∃ y, y = decide (rcOk r = true ∧ putR r <+: ss.map Prod.snd) := ⟨_, rfl⟩
  rw [← hy]
  have HY := Hid.mk' hy
  have HR := Hid.mk' hr
  have HZ := Hid.mk' hz
  have HS := Hid.mk' hlen
  obtain ⟨a, ca, rfl⟩ := hv.form
  have hmx := (Rd.max hv.1)
  unfold maxLen at hmx
  have HV := Hid.mk' hv
  obtain ⟨n, hn⟩ : ∃ n, n = ss.length := ⟨_, rfl⟩
  have HN := Hid.mk' hn
  rw [← hn] at hmx ⊢
  obtain ⟨kind, name, attempt, epoch, mark, size, vs, share⟩ := r
  obtain ⟨z1, z2⟩ := hz
  have hs := hr
  simp only [Rc.Rd] at z1 z2 hs
  obtain ⟨as_, cs_, rfl⟩ := hs.form
  obtain ⟨R1, le1, H1, hb1⟩ := H.allocR (.cells #[.int .i64 kind, .string name, .int .i64 attempt, .int .i64 epoch, .int .i64 mark, .int .i64 size, .slice as_ share.length cs_] tRec (0, 0))
  clear H hv hn hy hlen hs hr z1 z2
  show Calls _ _ #[_, .agg #[.int .i64 kind, .string name, .int .i64 attempt, .int .i64 epoch, .int .i64 mark, .int .i64 size, .slice as_ share.length cs_]] _ _
  go_enter Try.func86, Try.ntmps86
  go_upto_region 1 with fail
  generalize (World.alloc ..) = w1 at H1 ⊢
  generalize w.heap.size = g at hb1 ⊢
  obtain ⟨l1, n1, c1⟩ := Holds.frzFacts (H1) hb1
  go_wp2_with fail
  refine (rrecRight_spec (⟨kind, name, attempt, epoch, mark, size, .slice as_ share.length cs_, share⟩ : Rc) H1 (HR.out.le le1) HZ.out).mono ?_
  rintro e w3 ⟨rfl, H3⟩
  clear H1 l1 n1 c1
  cases hok : rcOk (⟨kind, name, attempt, epoch, mark, size, .slice as_ share.length cs_, share⟩ : Rc) with
  | false =>
    have HYY : Hid (y = false) := Hid.mk' (by rw [HY.out, decide_eq_false_iff_not, hok]; rintro ⟨h, _⟩; cases h)
    clear hok
    go_wp2_with fail
    go_ret
    exact ⟨ret_bool HYY.out.symm, H3.weaken le1⟩
  | true =>
  have HOK := Hid.mk' hok
  clear hok
  obtain ⟨l1, n1, c1⟩ := Holds.frzFacts (H3) hb1
  go_wp2_with fail
  refine (rrecPut_ok (⟨kind, name, attempt, epoch, mark, size, .slice as_ share.length cs_, share⟩ : Rc) H3 (HR.out.le le1) HZ.out HOK.out).mono ?_
  rintro e w4 ⟨o, q, rfl, hq, H4⟩
  unfold rowsR at H4
  obtain ⟨R5, le5, H5, hqq⟩ := freezeBB H4
  obtain ⟨ao, co, rfl⟩ := hqq.form
  have hqm := Rd.max hqq.1
  unfold maxLen at hqm
  obtain ⟨m, hm⟩ : ∃ m, m = q.length := ⟨_, rfl⟩
  have HM := Hid.mk' hm
  have HQ := Hid.mk' hq
  have HQQ := Hid.mk' hqq
  have HPL : Hid ((putR (⟨kind, name, attempt, epoch, mark, size, .slice as_ share.length cs_, share⟩ : Rc)).length = m) := Hid.mk' (by rw [← hq, List.length_map, hm])
  have HT := Hid.mk' (putR_lens hq)
  have leA := le1.trans le5
  replace HV := Hid.mk' (HV.out.le leA)
  rw [← hm] at hqm ⊢
  clear H3 H4 hqq hq hm l1 n1 c1 hb1
  by_cases hnm : n < m
  · have t1 : decide ((n : Int) < (m : Int)) = true := by simp; omega
    have t1n : decide (n < m) = true := by simp; omega
    have HYY : Hid (y = false) := Hid.mk' (by
      rw [HY.out, decide_eq_false_iff_not]
      rintro ⟨_, h⟩
      have := h.length_le
      rw [HPL.out, List.length_map, ← HN.out] at this
      omega)
    clear hnm
    go_wp2_with fail
    go_ret
    exact ⟨ret_bool HYY.out.symm, H5.weaken leA⟩
  · have t1 : decide ((n : Int) < (m : Int)) = false := by simp; omega
    have t1n : decide (n < m) = false := by simp; omega
    have hmn : m ≤ n := by omega
    clear hnm
    go_wp2_with fail
    go_loopw [6] (fun i wx => ∃ j : Nat, i = .int .i64 j ∧ j ≤ m ∧ Hid ((putR (⟨kind, name, attempt, epoch, mark, size, .slice as_ share.length cs_, share⟩ : Rc)).take j = (ss.map Prod.snd).take j) ∧ Holds wx R5 L) (fun i _ => m - (intOf i).toNat)
    case atStart => exact ⟨0, rfl, Nat.zero_le _, Hid.mk' rfl, H5⟩
    case round =>
      clear H5
      obtain ⟨j, rfl, hj, hA, H3⟩ := hrel
      by_cases hlt : j < m
      · have d1 : decide ((j : Int) < (m : Int)) = true := by simp; omega
        have hjs : j < ss.length := by rw [← HN.out]; omega
        have hjt : j < q.length := by rw [← HM.out]; exact hlt
        obtain ⟨b2, o2, ha2, hc2, hq2⟩ := RdBB.at HV.out hjs
        obtain ⟨b3, o3, ha3, hc3, hq3⟩ := RdBB.at HQQ.out hjt
        subst ha2 ha3
        replace hc2 := H3.cell hc2
        replace hc3 := H3.cell hc3
        have hl2 := HS.out _ (List.getElem_mem hjs)
        have hl3 := HT.out _ (List.getElem_mem hjt)
        have g2 : (ss.map Prod.snd)[j]? = some ss[j].2 := by rw [List.getElem?_map, List.getElem?_eq_getElem hjs]; rfl
        have g3 : (putR (⟨kind, name, attempt, epoch, mark, size, .slice as_ share.length cs_, share⟩ : Rc))[j]? = some q[j].2 := by rw [← HQ.out, List.getElem?_map, List.getElem?_eq_getElem hjt]; rfl
        generalize ss[j] = x2 at *
        generalize q[j] = x3 at *
        obtain ⟨v2, l2⟩ := x2
        obtain ⟨v3, l3⟩ := x3
        simp only at hc2 hc3 hq2 hq3 hl2 hl3 g2 g3
        obtain ⟨av2, cv2, rfl⟩ := hq2.form
        obtain ⟨av3, cv3, rfl⟩ := hq3.form
        have hq := fun w' (h : Holds w' R5 L) => same_spec (Rd.world hq2 h) (Rd.world hq3 h) hl2 hl3
        have HSM := Hid.mk' hq
        have G2 := Hid.mk' g2
        have G3 := Hid.mk' g3
        have i1 : (0 : Int) ≤ (j : Int) := by omega
        have i2 : (j : Int) < (n : Int) := by omega
        have i3 : (j : Int) < (m : Int) := by omega
        have HH := Hid.mk' H3
        clear hq hq2 hq3 hl2 hl3 g2 g3 hjs hjt
        go_wp2_with fail
        go_quiet ((go_at_call 27; exact Calls.quiet_of (HSM.out _ (H3.drewN _))))
        by_cases hll : l2 = l3
        · rw [decide_eq_true hll]
          have HLL := Hid.mk' hll
          clear hll
          go_wp2_with fail
          go_roundw
          case rel =>
            refine ⟨j + 1, by go_num, hlt, Hid.mk' ?_, H3.drewN _⟩
            have e1 := List.take_add_one (l := putR (⟨kind, name, attempt, epoch, mark, size, .slice as_ share.length cs_, share⟩ : Rc)) (i := j)
            have e2 := List.take_add_one (l := ss.map Prod.snd) (i := j)
            rw [e1, e2, hA.out, G2.out, G3.out, HLL.out]
          case measure => simp [intOf]; omega
        · rw [decide_eq_false hll]
          have HYY : Hid (y = false) := Hid.mk' (by
            rw [HY.out, decide_eq_false_iff_not]
            rintro ⟨_, t, ht⟩
            have h := G3.out
            have h2 := G2.out
            rw [← ht, List.getElem?_append_left (by rw [HPL.out]; exact hlt), h] at h2
            exact hll (Option.some.inj h2).symm)
          clear hll
          go_wp2_with fail
          go_ret
          exact ⟨ret_bool HYY.out.symm, (H3.drewN _).weaken leA⟩
      · have d1 : decide ((j : Int) < (m : Int)) = false := by simp; omega
        obtain rfl : j = m := by omega
        have HYY : Hid (y = true) := Hid.mk' (by
          rw [HY.out, decide_eq_true_eq]
          refine ⟨HOK.out, ?_⟩
          have h := hA.out
          rw [List.take_of_length_le (by rw [HPL.out]; exact Nat.le_refl _)] at h
          rw [h]
          exact List.take_prefix _ _)
        go_wp2_with fail
        go_ret
        exact ⟨ret_bool HYY.out.symm, H3.weaken leA⟩
end Sh
