/- Records' laws: what all of them use. -/
import Derived.Test.YtmogagcffebbaaaRecGet
import Derived.Test.YtmogagcffebbaaaRecSame
import Derived.Test.YtmogagcffebbaaaRecRef
set_option linter.unusedVariables false
set_option linter.unusedSimpArgs false
namespace Sh
open Go Go.RowKit Go.Proofs
attribute [local go_sem ↓] Go.wp_at_zero Go.wp_at_succ
set_option maxHeartbeats 1000000
set_option maxRecDepth 100000

theorem recFar_spec {w : World} {R : Snap} {L : Asrt} (r : Rc) (H : Holds w R L) (hr : r.Rd R.cell?) :
    Calls Try.prog 72 #[.agg r.cells.toArray] w fun e w' => e = .returned (.bool (decide (40 < r.name.size) || decide (300 < r.share.length))) ∧ Holds w' R L := by
  obtain ⟨kind, name, attempt, epoch, mark, size, vs, share⟩ := r
  have hs : RdB R.cell? vs share := hr
  obtain ⟨as_, cs_, rfl⟩ := hs.form
  show Calls _ _ #[.agg #[.int .i64 kind, .string name, .int .i64 attempt, .int .i64 epoch, .int .i64 mark, .int .i64 size, .slice as_ share.length cs_]] _ fun e w' => e = .returned (.bool (decide (40 < name.size) || decide (300 < share.length))) ∧ Holds w' R L
  have hmx := hs.max
  unfold maxLen at hmx
  obtain ⟨n, hn⟩ : ∃ n, n = share.length := ⟨_, rfl⟩
  obtain ⟨k, hk⟩ : ∃ k, k = name.size := ⟨_, rfl⟩
  have hkk : (name.size : Int) = (k : Int) := by omega
  rw [← hn] at hmx ⊢
  rw [← hk]
  have H1 := H.garbage (.cells #[.int .i64 kind, .string name, .int .i64 attempt, .int .i64 epoch, .int .i64 mark, .int .i64 size, .slice as_ n cs_] tRec)
  clear hs hn hr hk
  by_cases h1 : 40 < k
  · have t1 : decide ((40 : Int) < (k : Int)) = true := by simp; omega
    go_enter Try.func72, Try.ntmps72
    go_wp2_with fail
    go_ret
    exact ⟨ret_bool (by simp [h1]), H1⟩
  · have t1 : decide ((40 : Int) < (k : Int)) = false := by simp; omega
    go_enter Try.func72, Try.ntmps72
    go_wp2_with fail
    go_ret
    exact ⟨ret_bool (by simp [h1]; omega), H1⟩
theorem recCount_spec {w : World} {R : Snap} {L : Asrt} (r : Rc) (H : Holds w R L) (hr : r.Rd R.cell?) (hz : r.Sz) :
    Calls Try.prog 81 #[.agg r.cells.toArray] w fun e w' => e = .returned (.int .i64 ((if rcOk r = true then (putR r).length else 0 : Nat) : Int)) ∧ Holds w' R L := by
  obtain ⟨y, hy⟩ : ∃ y, y = (if rcOk r = true then (putR r).length else 0) := ⟨_, rfl⟩
  rw [← hy]
  have HY := Hid.mk' hy
  have HR := Hid.mk' hr
  have HZ := Hid.mk' hz
  obtain ⟨kind, name, attempt, epoch, mark, size, vs, share⟩ := r
  obtain ⟨z1, z2⟩ := hz
  have hs := hr
  simp only [Rc.Rd] at z1 z2 hs
  obtain ⟨as_, cs_, rfl⟩ := hs.form
  obtain ⟨n, hn⟩ : ∃ n, n = share.length := ⟨_, rfl⟩
  have HN := Hid.mk' hn
  obtain ⟨R1, le1, H1, hb⟩ := H.allocR (.cells #[.int .i64 kind, .string name, .int .i64 attempt, .int .i64 epoch, .int .i64 mark, .int .i64 size, .slice as_ share.length cs_] tRec (0, 0))
  show Calls _ _ #[.agg #[.int .i64 kind, .string name, .int .i64 attempt, .int .i64 epoch, .int .i64 mark, .int .i64 size, .slice as_ share.length cs_]] _ _
  have hb' : R1.blk w.heap.size = some (.cells #[.int .i64 kind, .string name, .int .i64 attempt, .int .i64 epoch, .int .i64 mark, .int .i64 size, .slice as_ n cs_] tRec (0, 0)) := by rw [hn]; exact hb
  rw [← hn] at z2
  simp only [← hn] at H1 ⊢
  clear hs hr hy hb hn H
  obtain ⟨l1, n1, c1⟩ := Holds.frzFacts (H1) hb'
  go_enter Try.func81, Try.ntmps81
  go_upto_region 1 with fail
  generalize (World.alloc ..) = w1 at H1 l1 n1 c1 ⊢
  generalize w.heap.size = g1 at hb' l1 n1 c1 ⊢
  go_wp2_with fail
  have hcl : (Value.agg #[.int .i64 kind, .string name, .int .i64 attempt, .int .i64 epoch, .int .i64 mark, .int .i64 size, .slice as_ n cs_]) = .agg ((⟨kind, name, attempt, epoch, mark, size, .slice as_ share.length cs_, share⟩ : Rc)).cells.toArray := by rw [HN.out]; rfl
  rw [hcl]
  clear hcl
  refine (recRight_spec (⟨kind, name, attempt, epoch, mark, size, .slice as_ share.length cs_, share⟩ : Rc) H1 (HR.out.le le1) HZ.out).mono ?_
  rintro e w3 ⟨rfl, H3⟩
  clear H1 l1 n1 c1
  obtain ⟨l1, n1, c1⟩ := Holds.frzFacts (H3) hb'
  cases hok : rcOk (⟨kind, name, attempt, epoch, mark, size, .slice as_ share.length cs_, share⟩ : Rc) with
  | false =>
    have HOK := Hid.mk' hok
    clear hok
    go_wp2_with fail
    go_ret
    exact ⟨by rw [HY.out, if_neg (by rw [HOK.out]; decide)]; rfl, H3.weaken le1⟩
  | true =>
    have HOK := Hid.mk' hok
    clear hok
    go_wp2_with fail
    refine (bodies_spec n z2 _).mono ?_
    rintro e w4 ⟨rfl, rfl⟩
    have hb9 : bodiesN n ≤ 100000 := by unfold bodiesN; omega
    obtain ⟨m, hm⟩ : ∃ m, m = 1 + bodiesN n := ⟨_, rfl⟩
    have e1 : (1 : Int) + ((bodiesN n : Nat) : Int) = (m : Int) := by omega
    have HM := Hid.mk' hm
    clear hm
    go_wp2_with fail
    go_ret
    have : y = m := by rw [HY.out, if_pos HOK.out, putR_len, HM.out, HN.out]
    exact ⟨by rw [this]; rfl, H3.weaken le1⟩
def someR (n : Nat) : Rc := ⟨2, ⟨#[97]⟩, 3, 5, 7, 9, .slice none 0 0, List.replicate n 0⟩
theorem some_spec {w : World} {R : Snap} {L : Asrt} (n : Nat) (hn : n ≤ 1000) (H : Holds w R L) :
    Calls Try.prog 153 #[.int .i64 (n : Nat)] w fun e w' => ∃ R', R.le R' ∧ ∃ M : Rc, e = .returned (.agg M.cells.toArray) ∧ M.con = (someR n).con ∧ M.Rd R'.cell? ∧ M.Sz ∧ Holds w' R' L := by
  have H1 := H.alloc #[.int .i64 0, .string ⟨#[]⟩, .int .i64 0, .int .i64 0, .int .i64 0, .int .i64 0, .slice none 0 0] tRec
  clear H
  have hnw : wrap64 (n : Int) = (n : Int) := IntWalk.wrap64_in _ (by omega)
  go_enter Try.func153, Try.ntmps153
  go_wp2_with (with_reducible refine stop_make ?_)
  refine Hold.go (wpList_makeB (n := n) rfl _ _ rfl rfl rfl H1 (by omega) ?_)
  intro v2 w2 H2
  obtain ⟨R3, le3, H3, hr3⟩ := H2.freezeRow
  obtain ⟨m, hm⟩ : ∃ m, m = (List.replicate n (0 : UInt8)).length := ⟨_, rfl⟩
  replace hr3 : RdB R3.cell? v2 (List.replicate n 0) := hr3
  obtain ⟨a3, c3, rfl⟩ := hr3.form
  have HR3 := Hid.mk' hr3
  simp only [List.length_replicate]
  generalize w.heap.size = z at H3 ⊢
  clear H1 H2 hr3 hm
  obtain ⟨l8, n8, c8, z8⟩ := Holds.facts (H3)
  go_wp2_with fail
  have H13 := Holds.blkFull H3 [.int .i64 2, .string ⟨#[97]⟩, .int .i64 3, .int .i64 5, .int .i64 7, .int .i64 9, .slice a3 n c3] rfl
  clear l8 n8 c8 z8
  generalize hw9 : World.setCell .. = w13
  replace H13 := Holds.at hw9 H13
  clear hw9
  refine bodyPost_ret (results_cell_row rfl _ _ z tRec _ (0, 0) _ rfl H13.blkAt Try.underlying108 rfl (by kernel_rfl)) rfl ?_
  exact ⟨R3, le3, ⟨2, ⟨#[97]⟩, 3, 5, 7, 9, .slice a3 n c3, List.replicate n 0⟩, rfl, rfl, RdB.at_len HR3.out (List.length_replicate ..), ⟨by show (⟨#[97]⟩ : ByteArray).size ≤ maxLen; decide, by show (List.replicate n (0 : UInt8)).length ≤ 1000000; rw [List.length_replicate]; omega⟩, H13.drop⟩
theorem same04_spec {w : World} {R : Snap} {L : Asrt} {u v : Value} {ss tt : List (Value × List UInt8)} (H : Holds w R L) (hu : RdBB R.cell? u ss) (hv : RdBB R.cell? v tt) (hs : ∀ x ∈ ss, x.2.length ≤ 1000000) (ht : ∀ x ∈ tt, x.2.length ≤ 1000000) :
    Calls Try.prog 67 #[u, v] w fun e w' => e = .returned (.bool (decide (ss.map Prod.snd = tt.map Prod.snd))) ∧ Holds w' R L := by
  obtain ⟨y, hy⟩ : ∃ y, y = decide (ss.map Prod.snd = tt.map Prod.snd) := ⟨_, rfl⟩
  rw [← hy]
  have HY := Hid.mk' hy
  obtain ⟨a, ca, rfl⟩ := hu.form
  obtain ⟨b, cb, rfl⟩ := hv.form
  have hmx := (Rd.max hu.1)
  unfold maxLen at hmx
  have HU := Hid.mk' hu
  have HV := Hid.mk' hv
  have HS := Hid.mk' hs
  have HT := Hid.mk' ht
  obtain ⟨n, hn⟩ : ∃ n, n = ss.length := ⟨_, rfl⟩
  obtain ⟨m, hm⟩ : ∃ m, m = tt.length := ⟨_, rfl⟩
  have HN := Hid.mk' hn
  have HM := Hid.mk' hm
  rw [← hn] at hmx
  rw [← hn, ← hm]
  clear hu hv hs ht hn hm hy
  by_cases hnm : n = m
  · subst hnm
    go_enter Try.func67, Try.ntmps67
    go_wp2_with fail
    go_loopw [5] (fun i wx => ∃ j : Nat, i = .int .i64 j ∧ j ≤ n ∧ Hid ((ss.map Prod.snd).take j = (tt.map Prod.snd).take j) ∧ Holds wx R L) (fun i _ => n - (intOf i).toNat)
    case atStart => exact ⟨0, rfl, Nat.zero_le _, Hid.mk' rfl, H⟩
    case round =>
      clear H
      obtain ⟨j, rfl, hj, hA, H3⟩ := hrel
      by_cases hlt : j < n
      · have d1 : decide ((j : Int) < (n : Int)) = true := by simp; omega
        have hjs : j < ss.length := by rw [← HN.out]; exact hlt
        have hjt : j < tt.length := by rw [← HM.out]; exact hlt
        obtain ⟨b2, o2, ha2, hc2, hq2⟩ := RdBB.at HU.out hjs
        obtain ⟨b3, o3, ha3, hc3, hq3⟩ := RdBB.at HV.out hjt
        subst ha2 ha3
        replace hc2 := H3.cell hc2
        replace hc3 := H3.cell hc3
        have hl2 := HS.out _ (List.getElem_mem hjs)
        have hl3 := HT.out _ (List.getElem_mem hjt)
        have g2 : (ss.map Prod.snd)[j]? = some ss[j].2 := by rw [List.getElem?_map, List.getElem?_eq_getElem hjs]; rfl
        have g3 : (tt.map Prod.snd)[j]? = some tt[j].2 := by rw [List.getElem?_map, List.getElem?_eq_getElem hjt]; rfl
        generalize ss[j] = x2 at *
        generalize tt[j] = x3 at *
        obtain ⟨v2, l2⟩ := x2
        obtain ⟨v3, l3⟩ := x3
        simp only at hc2 hc3 hq2 hq3 hl2 hl3 g2 g3
        obtain ⟨av2, cv2, rfl⟩ := hq2.form
        obtain ⟨av3, cv3, rfl⟩ := hq3.form
        have hq := fun w' (h : Holds w' R L) => same_spec (Rd.world hq2 h) (Rd.world hq3 h) hl2 hl3
        have HQ := Hid.mk' hq
        have G2 := Hid.mk' g2
        have G3 := Hid.mk' g3
        have i1 : (0 : Int) ≤ (j : Int) := by omega
        have i2 : (j : Int) < (n : Int) := by omega
        have HH := Hid.mk' H3
        clear hq hq2 hq3 hl2 hl3 g2 g3 hjs hjt
        go_wp2_with fail
        go_quiet ((go_at_call 27; exact Calls.quiet_of (HQ.out _ (H3.drewN _))))
        by_cases hll : l2 = l3
        · rw [decide_eq_true hll]
          have HLL := Hid.mk' hll
          clear hll
          go_wp2_with fail
          go_roundw
          case rel =>
            refine ⟨j + 1, by go_num, hlt, Hid.mk' ?_, H3.drewN _⟩
            have e1 := List.take_add_one (l := ss.map Prod.snd) (i := j)
            have e2 := List.take_add_one (l := tt.map Prod.snd) (i := j)
            rw [e1, e2, hA.out, G2.out, G3.out, HLL.out]
          case measure => simp [intOf]; omega
        · rw [decide_eq_false hll]
          have hyy : y = false := by
            rw [HY.out, decide_eq_false_iff_not]
            intro h
            rw [h, G3.out] at G2
            exact hll (Option.some.inj G2.out).symm
          have HYY := Hid.mk' hyy
          clear hyy hll
          go_wp2_with fail
          go_ret
          exact ⟨ret_bool HYY.out.symm, H3.drewN _⟩
      · have d1 : decide ((j : Int) < (n : Int)) = false := by simp; omega
        have hyy : y = true := by
          rw [HY.out, decide_eq_true_eq]
          have h := hA.out
          rwa [List.take_of_length_le (by rw [List.length_map, ← HN.out]; omega), List.take_of_length_le (by rw [List.length_map, ← HM.out]; omega)] at h
        have HYY := Hid.mk' hyy
        clear hyy
        go_wp2_with fail
        go_ret
        exact ⟨ret_bool HYY.out.symm, H3⟩
  · have t0 : ((n : Int) != (m : Int)) = true := by simp; omega
    have hyy : y = false := by
      rw [HY.out, decide_eq_false_iff_not]
      intro h
      have := congrArg List.length h
      rw [List.length_map, List.length_map, ← HN.out, ← HM.out] at this
      exact hnm this
    have HYY := Hid.mk' hyy
    clear hyy hnm
    go_enter Try.func67, Try.ntmps67
    go_wp2_with fail
    go_ret
    exact ⟨ret_bool HYY.out.symm, H⟩
end Sh
