/- RecApartLaw RecRAre SecsAct RecPutsLaw: joined texts, each with its own sentence below. -/
import Derived.Test.YtmogagcffebbaaaJd14
import Derived.Test.YtmogagcffebbaaaJd13
import Derived.BigQuiet
import Derived.Test.YtmogagcffebbaaaJd2
/- RecordApart: the walk. -/
set_option linter.unusedVariables false
set_option linter.unusedSimpArgs false
namespace Sh
open Go Go.RowKit Go.Proofs
attribute [local go_sem ↓] Go.wp_at_zero Go.wp_at_succ
set_option maxHeartbeats 1000000
set_option maxRecDepth 100000

theorem putR_apart {m x : Rc} (hm : rcOk m = true) (hx : rcOk x = true) : decide (putR m = putR x) = rcSame m x := by
  unfold rcSame
  apply decide_eq_decide.2
  constructor
  · intro h
    exact put_one hm hx (List.prefix_refl _) (by rw [h]; exact List.prefix_refl _)
  · exact putR_con
theorem putR_lens {m : Rc} {q : List (Value × List UInt8)} (h : q.map Prod.snd = putR m) : ∀ x ∈ q, x.2.length ≤ 1000000 := by
  intro x hx
  have h1 : x.2 ∈ putR m := by rw [← h]; exact List.mem_map_of_mem hx
  have h2 : ∃ p, x.2 = sealS p := by
    unfold putR at h1
    rcases List.mem_cons.1 h1 with h3 | h3
    · exact ⟨_, h3⟩
    · obtain ⟨i, _, h4⟩ := List.mem_map.1 h3
      exact ⟨_, h4.symm⟩
  obtain ⟨p, hp⟩ := h2
  rw [hp]
  have := sealS_len_le p
  omega
theorem far_no {a b : Nat} (h : (decide (40 < a) || decide (300 < b)) = false) : a ≤ 40 ∧ b ≤ 300 := by
  simp only [Bool.or_eq_false_iff, decide_eq_false_iff_not] at h
  omega
set_option maxHeartbeats 8000000
theorem recordApart_walk (W : World) {m x : Rc} (hm : m.Rd W.cell? ∧ m.name.size ≤ maxLen) (hx : x.Rd W.cell? ∧ x.name.size ≤ maxLen) :
    Calls Try.prog 18 #[.agg m.cells.toArray, .agg x.cells.toArray] W fun e w' => e = .returned (.bool true) ∧ Below W.heap.size W w' := by
  obtain ⟨hm, hz1⟩ := hm
  obtain ⟨hx, hz2⟩ := hx
  have HM0 : Hid (m.Rd (Snap.of W).cell?) := Hid.mk' hm
  have HX0 : Hid (x.Rd (Snap.of W).cell?) := Hid.mk' hx
  have HZ := Hid.mk' hz1
  have HZX := Hid.mk' hz2
  obtain ⟨kind, name, attempt, epoch, mark, size, vs, share⟩ := m
  obtain ⟨kind', name', attempt', epoch', mark', size', vs', share'⟩ := x
  have hs : RdB W.cell? vs share := hm
  have hs' : RdB W.cell? vs' share' := hx
  obtain ⟨as_, cs_, rfl⟩ := hs.form
  obtain ⟨as', cs', rfl⟩ := hs'.form
  clear hs hs' hm hx hz1 hz2
  show Calls _ _ #[.agg #[.int .i64 kind, .string name, .int .i64 attempt, .int .i64 epoch, .int .i64 mark, .int .i64 size, .slice as_ share.length cs_], .agg #[.int .i64 kind', .string name', .int .i64 attempt', .int .i64 epoch', .int .i64 mark', .int .i64 size', .slice as' share'.length cs']] _ _
  obtain ⟨R1, le1, H1, hb1⟩ := (Holds.start W).allocR (.cells #[.int .i64 kind, .string name, .int .i64 attempt, .int .i64 epoch, .int .i64 mark, .int .i64 size, .slice as_ share.length cs_] tRec (0, 0))
  obtain ⟨R2, le2, H2, hb2⟩ := H1.allocR (.cells #[.int .i64 kind', .string name', .int .i64 attempt', .int .i64 epoch', .int .i64 mark', .int .i64 size', .slice as' share'.length cs'] tRec (0, 0))
  replace hb1 := le2.blk _ _ hb1
  have leA := le1.trans le2
  have HM := Hid.mk' (HM0.out.le leA)
  have HX := Hid.mk' (HX0.out.le leA)
  simp only [World.size_alloc] at hb2
  clear H1
  go_enter Try.func18, Try.ntmps18
  go_upto_region 1 with fail
  generalize (World.alloc ..) = w1 at H2 ⊢
  generalize W.heap.size + 1 = g2 at hb2 ⊢
  generalize hg : W.heap.size = g at hb1 ⊢
  obtain ⟨l1, n1, c1⟩ := Holds.frzFacts (H2) hb1
  obtain ⟨l2, n2, c2⟩ := Holds.frzFacts (H2) hb2
  go_wp2_with fail
  refine (recFar_spec (⟨kind, name, attempt, epoch, mark, size, .slice as_ share.length cs_, share⟩ : Rc) H2 HM.out).mono ?_
  rintro e w5 ⟨rfl, H5⟩
  clear H2 l1 n1 c1 l2 n2 c2
  obtain ⟨b, hb⟩ : ∃ b, b = (decide (40 < ((⟨kind, name, attempt, epoch, mark, size, .slice as_ share.length cs_, share⟩ : Rc)).name.size) || decide (300 < ((⟨kind, name, attempt, epoch, mark, size, .slice as_ share.length cs_, share⟩ : Rc)).share.length)) := ⟨_, rfl⟩
  rw [← hb]
  have HB := Hid.mk' hb.symm
  clear hb
  cases b with
  | true =>
    go_wp2_with fail
    refine (alive20 H5 celly_emp).mono ?_
    rintro e w99 ⟨rfl, H99⟩
    go_wp2_with fail
    go_ret
    exact ⟨rfl, hg ▸ H99.toBelow (leA)⟩
  | false =>
  have hf := far_no HB.out
  simp only at hf
  have HSZ : Hid (Rc.Sz (⟨kind, name, attempt, epoch, mark, size, .slice as_ share.length cs_, share⟩ : Rc)) := Hid.mk' ⟨HZ.out, by show share.length ≤ 1000000; omega⟩
  clear HB
  obtain ⟨l2, n2, c2⟩ := Holds.frzFacts (H5) hb2
  go_wp2_with fail
  refine (recFar_spec (⟨kind', name', attempt', epoch', mark', size', .slice as' share'.length cs', share'⟩ : Rc) H5 HX.out).mono ?_
  rintro e w6 ⟨rfl, H6⟩
  clear H5 l2 n2 c2
  obtain ⟨b, hb⟩ : ∃ b, b = (decide (40 < ((⟨kind', name', attempt', epoch', mark', size', .slice as' share'.length cs', share'⟩ : Rc)).name.size) || decide (300 < ((⟨kind', name', attempt', epoch', mark', size', .slice as' share'.length cs', share'⟩ : Rc)).share.length)) := ⟨_, rfl⟩
  rw [← hb]
  have HB := Hid.mk' hb.symm
  clear hb
  cases b with
  | true =>
    go_wp2_with fail
    refine (alive20 H6 celly_emp).mono ?_
    rintro e w99 ⟨rfl, H99⟩
    go_wp2_with fail
    go_ret
    exact ⟨rfl, hg ▸ H99.toBelow (leA)⟩
  | false =>
  have hf' := far_no HB.out
  simp only at hf'
  have HSX : Hid (Rc.Sz (⟨kind', name', attempt', epoch', mark', size', .slice as' share'.length cs', share'⟩ : Rc)) := Hid.mk' ⟨HZX.out, by show share'.length ≤ 1000000; omega⟩
  clear HB hf hf'
  obtain ⟨l1, n1, c1⟩ := Holds.frzFacts (H6) hb1
  go_wp2_with fail
  refine (rrecRight_spec (⟨kind, name, attempt, epoch, mark, size, .slice as_ share.length cs_, share⟩ : Rc) H6 HM.out HSZ.out).mono ?_
  rintro e w7 ⟨rfl, H7⟩
  clear H6 l1 n1 c1
  cases hok : rcOk (⟨kind, name, attempt, epoch, mark, size, .slice as_ share.length cs_, share⟩ : Rc) with
  | false =>
    go_wp2_with fail
    refine (alive20 H7 celly_emp).mono ?_
    rintro e w99 ⟨rfl, H99⟩
    go_wp2_with fail
    go_ret
    exact ⟨rfl, hg ▸ H99.toBelow (leA)⟩
  | true =>
  have HOK := Hid.mk' hok
  clear hok
  obtain ⟨l2, n2, c2⟩ := Holds.frzFacts (H7) hb2
  go_wp2_with fail
  refine (rrecRight_spec (⟨kind', name', attempt', epoch', mark', size', .slice as' share'.length cs', share'⟩ : Rc) H7 HX.out HSX.out).mono ?_
  rintro e w8 ⟨rfl, H8⟩
  clear H7 l2 n2 c2
  cases hok : rcOk (⟨kind', name', attempt', epoch', mark', size', .slice as' share'.length cs', share'⟩ : Rc) with
  | false =>
    go_wp2_with fail
    refine (alive20 H8 celly_emp).mono ?_
    rintro e w99 ⟨rfl, H99⟩
    go_wp2_with fail
    go_ret
    exact ⟨rfl, hg ▸ H99.toBelow (leA)⟩
  | true =>
  have HOX := Hid.mk' hok
  clear hok
  go_wp2_with fail
  refine (new_crc H8).mono ?_
  rintro e w9 ⟨p, rfl, H9⟩
  obtain ⟨R3, le3, H10, hT⟩ := H9.freezeBlk
  replace hb1 := le3.blk _ _ hb1
  replace hb2 := le3.blk _ _ hb2
  replace leA := leA.trans le3
  replace HM := Hid.mk' (HM.out.le le3)
  replace HX := Hid.mk' (HX.out.le le3)
  clear H8 H9 le1 le2 le3
  obtain ⟨l1, n1, c1⟩ := Holds.frzFacts (H10) hb1
  go_wp2_with fail
  refine (recPut_ok (⟨kind, name, attempt, epoch, mark, size, .slice as_ share.length cs_, share⟩ : Rc) H10 celly_emp hT HM.out HSZ.out HOK.out).mono ?_
  rintro e w11 ⟨o, q, rfl, hq, H11⟩
  obtain ⟨R4, le4, H12, hr⟩ := freezeBB H11
  have HQ := Hid.mk' hq
  replace hb1 := le4.blk _ _ hb1
  replace hb2 := le4.blk _ _ hb2
  replace hT := le4.blk _ _ hT
  replace leA := leA.trans le4
  replace HM := Hid.mk' (HM.out.le le4)
  replace HX := Hid.mk' (HX.out.le le4)
  obtain ⟨aa, ca, rfl⟩ := hr.form
  have HA := Hid.mk' hr
  clear H10 l1 n1 c1 H11 hr le4 hq
  obtain ⟨l2, n2, c2⟩ := Holds.frzFacts (H12) hb2
  go_wp2_with fail
  refine (recPut_ok (⟨kind', name', attempt', epoch', mark', size', .slice as' share'.length cs', share'⟩ : Rc) H12 celly_emp hT HX.out HSX.out HOX.out).mono ?_
  rintro e w13 ⟨o, q2, rfl, hq2, H13⟩
  obtain ⟨R5, le5, H14, hr⟩ := freezeBB H13
  have HQ2 := Hid.mk' hq2
  replace HA := Hid.mk' (HA.out.le le5)
  replace hb1 := le5.blk _ _ hb1
  replace hb2 := le5.blk _ _ hb2
  replace leA := leA.trans le5
  replace HM := Hid.mk' (HM.out.le le5)
  replace HX := Hid.mk' (HX.out.le le5)
  obtain ⟨ab, cb, rfl⟩ := hr.form
  have HBB := Hid.mk' hr
  clear H12 l2 n2 c2 H13 hr le5 hT hq2
  obtain ⟨y, hy⟩ : ∃ y, y = rcSame (⟨kind, name, attempt, epoch, mark, size, .slice as_ share.length cs_, share⟩ : Rc) (⟨kind', name', attempt', epoch', mark', size', .slice as' share'.length cs', share'⟩ : Rc) := ⟨_, rfl⟩
  have HE : Hid (decide (q.map Prod.snd = q2.map Prod.snd) = y) := Hid.mk' (by
    have h1 : q.map Prod.snd = putR (⟨kind, name, attempt, epoch, mark, size, .slice as_ share.length cs_, share⟩ : Rc) := HQ.out
    have h2 : q2.map Prod.snd = putR (⟨kind', name', attempt', epoch', mark', size', .slice as' share'.length cs', share'⟩ : Rc) := HQ2.out
    rw [h1, h2, putR_apart HOK.out HOX.out, hy])
  have HY := Hid.mk' hy
  clear hy
  obtain ⟨l1, n1, c1⟩ := Holds.frzFacts (H14) hb1
  obtain ⟨l2, n2, c2⟩ := Holds.frzFacts (H14) hb2
  go_upto_region 6 with fail
  cases y
  all_goals
    go_region_held3 (fun w' => (∀ o, w'.cell? ⟨g, o, none⟩ = #[.int .i64 kind, .string name, .int .i64 attempt, .int .i64 epoch, .int .i64 mark, .int .i64 size, .slice as_ share.length cs_][o]?) ∧ (∀ o, w'.cell? ⟨g2, o, none⟩ = #[.int .i64 kind', .string name', .int .i64 attempt', .int .i64 epoch', .int .i64 mark', .int .i64 size', .slice as' share'.length cs'][o]?)) (first | (exact And.intro (H23.frz hb1) (H23.frz hb2)) | (exact And.intro (H22.frz hb1) (H22.frz hb2)) | (exact And.intro (H21.frz hb1) (H21.frz hb2)) | ((repeat' (first | assumption | (with_reducible refine And.intro ?_ ?_) | (with_reducible refine keep_drew ?_) | (with_reducible refine keep_drewN ?_) | (with_reducible refine keep_alloc ?_ (by first | assumption | (simp only [World.size_alloc, World.size_drew, World.size_setCell]; omega))) | (with_reducible refine keep_set ?_ (by first | assumption | omega)))))) (first | (go_at_call 67; refine (same04_spec H14.drew HA.out HBB.out (putR_lens HQ.out) (putR_lens HQ2.out)).mono ?_; rintro e w21 ⟨rfl, H21⟩; rw [HE.out]) | (go_at_call 73; refine (alive20 H22 celly_emp).mono ?_; rintro e w23 ⟨rfl, H23⟩) | (go_at_call 80; refine (rrecSame_spec (⟨kind, name, attempt, epoch, mark, size, .slice as_ share.length cs_, share⟩ : Rc) (⟨kind', name', attempt', epoch', mark', size', .slice as' share'.length cs', share'⟩ : Rc) H21 HM.out HSZ.out HX.out HSX.out).mono ?_; rintro e w22 ⟨rfl, H22⟩; rw [← HY.out]))
    go_wp2_with fail
    go_ret
    exact ⟨rfl, hg ▸ H23.toBelow leA⟩
end Sh
/- sherdref20.Are, Count. -/
set_option linter.unusedVariables false
set_option linter.unusedSimpArgs false
namespace Sh
open Go Go.RowKit Go.Proofs
attribute [local go_sem ↓] Go.wp_at_zero Go.wp_at_succ
set_option maxHeartbeats 1000000
set_option maxRecDepth 100000

set_option maxHeartbeats 8000000
theorem rrecCount_spec {w : World} {R : Snap} {L : Asrt} (r : Rc) (H : Holds w R L) (hr : r.Rd R.cell?) (hz : r.Sz) :
    Calls Try.prog 84 #[.agg r.cells.toArray] w fun e w' => e = .returned (.int .i64 (((putR r).length : Nat) : Int)) ∧ Holds w' R L := by
  obtain ⟨y, hy⟩ : ∃ y, y = (putR r).length := ⟨_, rfl⟩
  rw [← hy]
  have hy2 : y = 1 + bodiesN r.share.length := by rw [hy, putR_len]
  obtain ⟨kind, name, attempt, epoch, mark, size, vs, share⟩ := r
  obtain ⟨z1, z2⟩ := hz
  have hs := hr
  simp only [Rc.Rd] at z1 z2 hs
  obtain ⟨as_, cs_, rfl⟩ := hs.form
  obtain ⟨n, hn⟩ : ∃ n, n = share.length := ⟨_, rfl⟩
  obtain ⟨R1, le1, H1, hb⟩ := H.allocR (.cells #[.int .i64 kind, .string name, .int .i64 attempt, .int .i64 epoch, .int .i64 mark, .int .i64 size, .slice as_ share.length cs_] tRec (0, 0))
  show Calls _ _ #[.agg #[.int .i64 kind, .string name, .int .i64 attempt, .int .i64 epoch, .int .i64 mark, .int .i64 size, .slice as_ share.length cs_]] _ _
  have hb' : R1.blk w.heap.size = some (.cells #[.int .i64 kind, .string name, .int .i64 attempt, .int .i64 epoch, .int .i64 mark, .int .i64 size, .slice as_ n cs_] tRec (0, 0)) := by rw [hn]; exact hb
  rw [← hn] at z2
  simp only [← hn] at H1 hy2 ⊢
  have HY := Hid.mk' hy2
  clear hs hr hy hb hn H hy2
  obtain ⟨l1, n1, c1⟩ := Holds.frzFacts (H1) hb'
  go_enter Try.func84, Try.ntmps84
  go_upto_region 1 with fail
  generalize (World.alloc ..) = w1 at H1 l1 n1 c1 ⊢
  generalize w.heap.size = g1 at hb' l1 n1 c1 ⊢
  go_wp2_with fail
  clear l1 n1 c1
  go_loopw [3, 4] (fun s3 i wx => ∃ j a : Nat, s3 = .int .i64 ((1 + j : Nat) : Int) ∧ i = .int .i64 (a : Int) ∧ a = 48 * j ∧ j ≤ bodiesN n ∧ Holds wx R1 L) (fun _ i _ => 48 * bodiesN n + 100 - (intOf i).toNat)
  case atStart => exact ⟨0, 0, rfl, rfl, rfl, Nat.zero_le _, H1⟩
  case round =>
    clear H1
    obtain ⟨j, a, rfl, rfl, ha, hj, H3⟩ := hrel
    obtain ⟨l1, n1, c1⟩ := Holds.frzFacts (H3) hb'
    by_cases hlt : a < n
    · have d1 : decide ((a : Int) < (n : Int)) = true := by simp; omega
      have d2 : decide (a < n) = true := by simp; omega
      have hjb : j + 1 ≤ bodiesN n := by unfold bodiesN; omega
      have HJB := Hid.mk' hjb
      have HA := Hid.mk' ha
      have ha9 : a ≤ 1000000 := by omega
      have hj9 : 1 + j ≤ 1000000 := by omega
      obtain ⟨k, hk⟩ : ∃ k, k = 1 + j := ⟨_, rfl⟩
      rw [← hk] at hj9 ⊢
      have HK := Hid.mk' hk
      clear hjb ha hj hk
      go_wp2_with fail
      go_roundw
      case rel => exact ⟨j + 1, a + 48, by rw [HK.out]; go_num, by go_num, by have := HA.out; omega, HJB.out, H3⟩
      case measure =>
        have := HJB.out
        have := HA.out
        simp [intOf]; omega
    · have d1 : decide ((a : Int) < (n : Int)) = false := by simp; omega
      have d2 : decide (a < n) = false := by simp; omega
      have hjj : y = 1 + j := by rw [HY.out]; unfold bodiesN at hj ⊢; omega
      have HJJ := Hid.mk' hjj
      clear hjj hj ha
      go_wp2_with fail
      go_ret
      exact ⟨by rw [HJJ.out]; rfl, H3.weaken le1⟩
theorem rrecAre_spec {w : World} {R : Snap} {L : Asrt} {v : Value} {ss : List (Value × List UInt8)} (r : Rc) (H : Holds w R L) (hv : RdBB R.cell? v ss) (hlen : ∀ x ∈ ss, x.2.length ≤ 1000000) (hr : r.Rd R.cell?) (hz : r.Sz) :
    Calls Try.prog 86 #[v, .agg r.cells.toArray] w fun e w' => e = .returned (.bool (decide (rcOk r = true ∧ putR r <+: ss.map Prod.snd))) ∧ Holds w' R L := by
  obtain ⟨y, hy⟩ : ∃ y, y = decide (rcOk r = true ∧ putR r <+: ss.map Prod.snd) := ⟨_, rfl⟩
  rw [← hy]
  have HY := Hid.mk' hy
  have HR := Hid.mk' hr
  have HZ := Hid.mk' hz
  have HS := Hid.mk' hlen
  obtain ⟨a, ca, rfl⟩ := hv.form
  have hmx := (Rd.max hv.1)
  unfold maxLen at hmx
  have HV := Hid.mk' hv
  obtain ⟨n, hn⟩ : ∃ n, n = ss.length := ⟨_, rfl⟩
  have HN := Hid.mk' hn
  rw [← hn] at hmx ⊢
  obtain ⟨kind, name, attempt, epoch, mark, size, vs, share⟩ := r
  obtain ⟨z1, z2⟩ := hz
  have hs := hr
  simp only [Rc.Rd] at z1 z2 hs
  obtain ⟨as_, cs_, rfl⟩ := hs.form
  obtain ⟨R1, le1, H1, hb1⟩ := H.allocR (.cells #[.int .i64 kind, .string name, .int .i64 attempt, .int .i64 epoch, .int .i64 mark, .int .i64 size, .slice as_ share.length cs_] tRec (0, 0))
  clear H hv hn hy hlen hs hr z1 z2
  show Calls _ _ #[_, .agg #[.int .i64 kind, .string name, .int .i64 attempt, .int .i64 epoch, .int .i64 mark, .int .i64 size, .slice as_ share.length cs_]] _ _
  go_enter Try.func86, Try.ntmps86
  go_upto_region 1 with fail
  generalize (World.alloc ..) = w1 at H1 ⊢
  generalize w.heap.size = g at hb1 ⊢
  obtain ⟨l1, n1, c1⟩ := Holds.frzFacts (H1) hb1
  go_wp2_with fail
  refine (rrecRight_spec (⟨kind, name, attempt, epoch, mark, size, .slice as_ share.length cs_, share⟩ : Rc) H1 (HR.out.le le1) HZ.out).mono ?_
  rintro e w3 ⟨rfl, H3⟩
  clear H1 l1 n1 c1
  cases hok : rcOk (⟨kind, name, attempt, epoch, mark, size, .slice as_ share.length cs_, share⟩ : Rc) with
  | false =>
    have HYY : Hid (y = false) := Hid.mk' (by rw [HY.out, decide_eq_false_iff_not, hok]; rintro ⟨h, _⟩; cases h)
    clear hok
    go_wp2_with fail
    go_ret
    exact ⟨ret_bool HYY.out.symm, H3.weaken le1⟩
  | true =>
  have HOK := Hid.mk' hok
  clear hok
  obtain ⟨l1, n1, c1⟩ := Holds.frzFacts (H3) hb1
  go_wp2_with fail
  refine (rrecPut_ok (⟨kind, name, attempt, epoch, mark, size, .slice as_ share.length cs_, share⟩ : Rc) H3 (HR.out.le le1) HZ.out HOK.out).mono ?_
  rintro e w4 ⟨o, q, rfl, hq, H4⟩
  unfold rowsR at H4
  obtain ⟨R5, le5, H5, hqq⟩ := freezeBB H4
  obtain ⟨ao, co, rfl⟩ := hqq.form
  have hqm := Rd.max hqq.1
  unfold maxLen at hqm
  obtain ⟨m, hm⟩ : ∃ m, m = q.length := ⟨_, rfl⟩
  have HM := Hid.mk' hm
  have HQ := Hid.mk' hq
  have HQQ := Hid.mk' hqq
  have HPL : Hid ((putR (⟨kind, name, attempt, epoch, mark, size, .slice as_ share.length cs_, share⟩ : Rc)).length = m) := Hid.mk' (by rw [← hq, List.length_map, hm])
  have HT := Hid.mk' (putR_lens hq)
  have leA := le1.trans le5
  replace HV := Hid.mk' (HV.out.le leA)
  rw [← hm] at hqm ⊢
  clear H3 H4 hqq hq hm l1 n1 c1 hb1
  by_cases hnm : n < m
  · have t1 : decide ((n : Int) < (m : Int)) = true := by simp; omega
    have t1n : decide (n < m) = true := by simp; omega
    have HYY : Hid (y = false) := Hid.mk' (by
      rw [HY.out, decide_eq_false_iff_not]
      rintro ⟨_, h⟩
      have := h.length_le
      rw [HPL.out, List.length_map, ← HN.out] at this
      omega)
    clear hnm
    go_wp2_with fail
    go_ret
    exact ⟨ret_bool HYY.out.symm, H5.weaken leA⟩
  · have t1 : decide ((n : Int) < (m : Int)) = false := by simp; omega
    have t1n : decide (n < m) = false := by simp; omega
    have hmn : m ≤ n := by omega
    clear hnm
    go_wp2_with fail
    go_loopw [6] (fun i wx => ∃ j : Nat, i = .int .i64 j ∧ j ≤ m ∧ Hid ((putR (⟨kind, name, attempt, epoch, mark, size, .slice as_ share.length cs_, share⟩ : Rc)).take j = (ss.map Prod.snd).take j) ∧ Holds wx R5 L) (fun i _ => m - (intOf i).toNat)
    case atStart => exact ⟨0, rfl, Nat.zero_le _, Hid.mk' rfl, H5⟩
    case round =>
      clear H5
      obtain ⟨j, rfl, hj, hA, H3⟩ := hrel
      by_cases hlt : j < m
      · have d1 : decide ((j : Int) < (m : Int)) = true := by simp; omega
        have hjs : j < ss.length := by rw [← HN.out]; omega
        have hjt : j < q.length := by rw [← HM.out]; exact hlt
        obtain ⟨b2, o2, ha2, hc2, hq2⟩ := RdBB.at HV.out hjs
        obtain ⟨b3, o3, ha3, hc3, hq3⟩ := RdBB.at HQQ.out hjt
        subst ha2 ha3
        replace hc2 := H3.cell hc2
        replace hc3 := H3.cell hc3
        have hl2 := HS.out _ (List.getElem_mem hjs)
        have hl3 := HT.out _ (List.getElem_mem hjt)
        have g2 : (ss.map Prod.snd)[j]? = some ss[j].2 := by rw [List.getElem?_map, List.getElem?_eq_getElem hjs]; rfl
        have g3 : (putR (⟨kind, name, attempt, epoch, mark, size, .slice as_ share.length cs_, share⟩ : Rc))[j]? = some q[j].2 := by rw [← HQ.out, List.getElem?_map, List.getElem?_eq_getElem hjt]; rfl
        generalize ss[j] = x2 at *
        generalize q[j] = x3 at *
        obtain ⟨v2, l2⟩ := x2
        obtain ⟨v3, l3⟩ := x3
        simp only at hc2 hc3 hq2 hq3 hl2 hl3 g2 g3
        obtain ⟨av2, cv2, rfl⟩ := hq2.form
        obtain ⟨av3, cv3, rfl⟩ := hq3.form
        have hq := fun w' (h : Holds w' R5 L) => same_spec (Rd.world hq2 h) (Rd.world hq3 h) hl2 hl3
        have HSM := Hid.mk' hq
        have G2 := Hid.mk' g2
        have G3 := Hid.mk' g3
        have i1 : (0 : Int) ≤ (j : Int) := by omega
        have i2 : (j : Int) < (n : Int) := by omega
        have i3 : (j : Int) < (m : Int) := by omega
        have HH := Hid.mk' H3
        clear hq hq2 hq3 hl2 hl3 g2 g3 hjs hjt
        go_wp2_with fail
        go_quiet ((go_at_call 27; exact Calls.quiet_of (HSM.out _ (H3.drewN _))))
        by_cases hll : l2 = l3
        · rw [decide_eq_true hll]
          have HLL := Hid.mk' hll
          clear hll
          go_wp2_with fail
          go_roundw
          case rel =>
            refine ⟨j + 1, by go_num, hlt, Hid.mk' ?_, H3.drewN _⟩
            have e1 := List.take_add_one (l := putR (⟨kind, name, attempt, epoch, mark, size, .slice as_ share.length cs_, share⟩ : Rc)) (i := j)
            have e2 := List.take_add_one (l := ss.map Prod.snd) (i := j)
            rw [e1, e2, hA.out, G2.out, G3.out, HLL.out]
          case measure => simp [intOf]; omega
        · rw [decide_eq_false hll]
          have HYY : Hid (y = false) := Hid.mk' (by
            rw [HY.out, decide_eq_false_iff_not]
            rintro ⟨_, t, ht⟩
            have h := G3.out
            have h2 := G2.out
            rw [← ht, List.getElem?_append_left (by rw [HPL.out]; exact hlt), h] at h2
            exact hll (Option.some.inj h2).symm)
          clear hll
          go_wp2_with fail
          go_ret
          exact ⟨ret_bool HYY.out.symm, (H3.drewN _).weaken leA⟩
      · have d1 : decide ((j : Int) < (m : Int)) = false := by simp; omega
        obtain rfl : j = m := by omega
        have HYY : Hid (y = true) := Hid.mk' (by
          rw [HY.out, decide_eq_true_eq]
          refine ⟨HOK.out, ?_⟩
          have h := hA.out
          rw [List.take_of_length_le (by rw [HPL.out]; exact Nat.le_refl _)] at h
          rw [h]
          exact List.take_prefix _ _)
        go_wp2_with fail
        go_ret
        exact ⟨ret_bool HYY.out.symm, H3.weaken leA⟩
end Sh
/- How sectors read as an argument. -/
set_option linter.unusedVariables false
set_option linter.unusedSimpArgs false
namespace Sh
open Go Go.RowKit Go.Proofs
instance : Inhabited (Value × List UInt8) := ⟨(.slice none 0 0, [])⟩
theorem read_sec {H : Type} {enc : TypeId × Value → H} {w : World} {base : Nat} {spare : Nat → Bool} {held : Bool} {fuel : Nat} {cs : List Value} {x : DataW H × List MemPlace} (h : DataW.trod enc Try.prog w base spare held fuel 22 cs = some x) :
    ∃ q : Value × List UInt8, cs = [q.1] ∧ RdB w.cell? q.1 q.2 := by
  obtain ⟨v, l, h1, h2⟩ := read_bytes Try.underlying22 Try.underlying5 (by kernel_rfl) h
  exact ⟨(v, l), h1, h2⟩
theorem secs_of {c : Addr → Option Value} {v : Value} {ss : List (Value × List UInt8)} (h : Rd c 1 v ss.length (ss.flatMap fun q => [q.1])) (hg : ∀ q ∈ ss, RdB c q.1 q.2) : RdBB c v ss := by
  rw [flat_single] at h
  exact ⟨h, hg⟩
end Sh
/- RecordPuts: the walk. -/
set_option linter.unusedVariables false
set_option linter.unusedSimpArgs false
namespace Sh
open Go Go.RowKit Go.Proofs
attribute [local go_sem ↓] Go.wp_at_zero Go.wp_at_succ
set_option maxHeartbeats 1000000
set_option maxRecDepth 100000

theorem emptySecs {w : World} {R : Snap} {L : Asrt} (H : Holds w R L) : Holds (w.alloc (.cells #[] tBytes)) R (star (row tBytes 1 (.slice (some ⟨w.heap.size, 0, none⟩) 0 0) 0 []) L) :=
  (H.alloc #[] tBytes).toRow 1 0 0 (Nat.le_refl _) (Nat.zero_le _) rfl
theorem RdBB.fst {c : Addr → Option Value} {v : Value} {ss : List (Value × List UInt8)} (h : RdBB c v ss) : Rd c 1 v ss.length (ss.map Prod.fst) := h.1
theorem fst_one {c : Addr → Option Value} {ss : List (Value × List UInt8)} (h : ∀ q ∈ ss, RdB c q.1 q.2) : ∀ x ∈ ss.map Prod.fst, x.oneCell' = true := by
  intro x hx
  obtain ⟨q, hq, rfl⟩ := List.mem_map.1 hx
  obtain ⟨a, n, h1⟩ := (h q hq).form
  rw [h1]; rfl
set_option maxHeartbeats 8000000
theorem recordPuts_walk0 (W : World) {m x : Rc} {vm : Value} {mo : List (Value × List UInt8)} (hm : m.Rd W.cell? ∧ m.name.size ≤ maxLen) (hx : x.Rd W.cell? ∧ x.name.size ≤ maxLen) (hmo : RdBB W.cell? vm mo) :
    Calls Try.prog 15 #[.agg m.cells.toArray, .agg x.cells.toArray, vm] W fun e w' => e = .returned (.bool true) ∧ Below W.heap.size W w' := by
  obtain ⟨hm, hz1⟩ := hm
  obtain ⟨hx, hz2⟩ := hx
  have HM0 : Hid (m.Rd (Snap.of W).cell?) := Hid.mk' hm
  have HX0 : Hid (x.Rd (Snap.of W).cell?) := Hid.mk' hx
  have HZ := Hid.mk' hz1
  have HZX := Hid.mk' hz2
  have HMO0 : Hid (RdBB (Snap.of W).cell? vm mo) := Hid.mk' hmo
  obtain ⟨am, cm, rfl⟩ := hmo.form
  have hmx := Rd.max hmo.1
  obtain ⟨K, hK⟩ : ∃ K, K = mo.length := ⟨_, rfl⟩
  have HKN := Hid.mk' hK
  rw [← hK] at hmx ⊢
  unfold maxLen at hmx
  obtain ⟨kind, name, attempt, epoch, mark, size, vs, share⟩ := m
  obtain ⟨kind', name', attempt', epoch', mark', size', vs', share'⟩ := x
  have hs : RdB W.cell? vs share := hm
  have hs' : RdB W.cell? vs' share' := hx
  obtain ⟨as_, cs_, rfl⟩ := hs.form
  obtain ⟨as', cs', rfl⟩ := hs'.form
  clear hs hs' hm hx hz1 hz2 hmo hK
  show Calls _ _ #[.agg #[.int .i64 kind, .string name, .int .i64 attempt, .int .i64 epoch, .int .i64 mark, .int .i64 size, .slice as_ share.length cs_], .agg #[.int .i64 kind', .string name', .int .i64 attempt', .int .i64 epoch', .int .i64 mark', .int .i64 size', .slice as' share'.length cs'], _] _ _
  obtain ⟨R1, le1, H1, hb1⟩ := (Holds.start W).allocR (.cells #[.int .i64 kind, .string name, .int .i64 attempt, .int .i64 epoch, .int .i64 mark, .int .i64 size, .slice as_ share.length cs_] tRec (0, 0))
  obtain ⟨R2, le2, H2, hb2⟩ := H1.allocR (.cells #[.int .i64 kind', .string name', .int .i64 attempt', .int .i64 epoch', .int .i64 mark', .int .i64 size', .slice as' share'.length cs'] tRec (0, 0))
  replace hb1 := le2.blk _ _ hb1
  have leA := le1.trans le2
  have HM := Hid.mk' (HM0.out.le leA)
  have HX := Hid.mk' (HX0.out.le leA)
  have HMO := Hid.mk' (HMO0.out.le leA)
  simp only [World.size_alloc] at hb2
  clear H1 HMO0
  go_enter Try.func15, Try.ntmps15
  go_upto_region 1 with fail
  generalize (World.alloc ..) = w1 at H2 ⊢
  generalize W.heap.size + 1 = g2 at hb2 ⊢
  generalize hg : W.heap.size = g at hb1 ⊢
  obtain ⟨l1, n1, c1⟩ := Holds.frzFacts (H2) hb1
  obtain ⟨l2, n2, c2⟩ := Holds.frzFacts (H2) hb2
  go_wp2_with fail
  refine (recFar_spec (⟨kind, name, attempt, epoch, mark, size, .slice as_ share.length cs_, share⟩ : Rc) H2 HM.out).mono ?_
  rintro e w5 ⟨rfl, H5⟩
  clear H2 l1 n1 c1 l2 n2 c2
  obtain ⟨b, hb⟩ : ∃ b, b = (decide (40 < ((⟨kind, name, attempt, epoch, mark, size, .slice as_ share.length cs_, share⟩ : Rc)).name.size) || decide (300 < ((⟨kind, name, attempt, epoch, mark, size, .slice as_ share.length cs_, share⟩ : Rc)).share.length)) := ⟨_, rfl⟩
  rw [← hb]
  have HB := Hid.mk' hb.symm
  clear hb
  cases b with
  | true =>
    go_wp2_with fail
    refine (alive20 H5 celly_emp).mono ?_
    rintro e w99 ⟨rfl, H99⟩
    go_wp2_with fail
    go_ret
    exact ⟨rfl, hg ▸ H99.toBelow (leA)⟩
  | false =>
  have hf := far_no HB.out
  simp only at hf
  have HSZ : Hid (Rc.Sz (⟨kind, name, attempt, epoch, mark, size, .slice as_ share.length cs_, share⟩ : Rc)) := Hid.mk' ⟨HZ.out, by show share.length ≤ 1000000; omega⟩
  clear HB
  obtain ⟨l2, n2, c2⟩ := Holds.frzFacts (H5) hb2
  go_wp2_with fail
  refine (recFar_spec (⟨kind', name', attempt', epoch', mark', size', .slice as' share'.length cs', share'⟩ : Rc) H5 HX.out).mono ?_
  rintro e w6 ⟨rfl, H6⟩
  clear H5 l2 n2 c2
  obtain ⟨b, hb⟩ : ∃ b, b = (decide (40 < ((⟨kind', name', attempt', epoch', mark', size', .slice as' share'.length cs', share'⟩ : Rc)).name.size) || decide (300 < ((⟨kind', name', attempt', epoch', mark', size', .slice as' share'.length cs', share'⟩ : Rc)).share.length)) := ⟨_, rfl⟩
  rw [← hb]
  have HB := Hid.mk' hb.symm
  clear hb
  cases b with
  | true =>
    go_wp2_with fail
    refine (alive20 H6 celly_emp).mono ?_
    rintro e w99 ⟨rfl, H99⟩
    go_wp2_with fail
    go_ret
    exact ⟨rfl, hg ▸ H99.toBelow (leA)⟩
  | false =>
  have hf' := far_no HB.out
  simp only at hf'
  have HSX : Hid (Rc.Sz (⟨kind', name', attempt', epoch', mark', size', .slice as' share'.length cs', share'⟩ : Rc)) := Hid.mk' ⟨HZX.out, by show share'.length ≤ 1000000; omega⟩
  clear HB hf hf'
  by_cases h5 : 5 < K
  · have t5 : decide ((5 : Int) < (K : Int)) = true := by simp; omega
    have t5n : decide (5 < K) = true := by simp; omega
    go_wp2_with fail
    refine (alive20 H6 celly_emp).mono ?_
    rintro e w99 ⟨rfl, H99⟩
    go_wp2_with fail
    go_ret
    exact ⟨rfl, hg ▸ H99.toBelow (leA)⟩
  have t5 : decide ((5 : Int) < (K : Int)) = false := by simp; omega
  have t5n : decide (5 < K) = false := by simp; omega
  go_wp2_with fail
  refine (new_crc H6).mono ?_
  rintro e w9 ⟨p, rfl, H9⟩
  obtain ⟨R3, le3, H10, hT⟩ := H9.freezeBlk
  replace hb1 := le3.blk _ _ hb1
  replace hb2 := le3.blk _ _ hb2
  replace leA := leA.trans le3
  replace HM := Hid.mk' (HM.out.le le3)
  replace HX := Hid.mk' (HX.out.le le3)
  replace HMO := Hid.mk' (HMO.out.le le3)
  clear H6 H9 le1 le2 le3 t5 t5n
  obtain ⟨ok, hok⟩ : ∃ ok, ok = rcOk (⟨kind, name, attempt, epoch, mark, size, .slice as_ share.length cs_, share⟩ : Rc) := ⟨_, rfl⟩
  have HOK := Hid.mk' hok.symm
  clear hok
  obtain ⟨l1, n1, c1⟩ := Holds.frzFacts (H10) hb1
  cases ok with
  | false =>
    go_wp2_with fail
    refine (recPut_bad (⟨kind, name, attempt, epoch, mark, size, .slice as_ share.length cs_, share⟩ : Rc) H10 HM.out HSZ.out HOK.out).mono ?_
    rintro e w11 ⟨rfl, H11⟩
    clear H10 l1 n1 c1
    obtain ⟨l1, n1, c1⟩ := Holds.frzFacts (H11) hb1
    go_wp2_with fail
    refine (rrecRight_spec (⟨kind, name, attempt, epoch, mark, size, .slice as_ share.length cs_, share⟩ : Rc) H11 HM.out HSZ.out).mono ?_
    rintro e w12 ⟨rfl, H12⟩
    rw [HOK.out]
    clear H11 l1 n1 c1
    obtain ⟨R4, hR4⟩ : ∃ R4, R4 = R3 := ⟨_, rfl⟩
    subst hR4
    obtain ⟨l1, n1, c1⟩ := Holds.frzFacts (H12) hb1
    obtain ⟨l2, n2, c2⟩ := Holds.frzFacts (H12) hb2
    go_upto_region 6 with fail
    go_cut [62] (fun c wx => c = .bool false ∧ Holds wx R4 (emp))
    case first =>
      obtain ⟨y, hy⟩ : ∃ y, y = rcSame (⟨kind, name, attempt, epoch, mark, size, .slice as_ share.length cs_, share⟩ : Rc) (⟨kind', name', attempt', epoch', mark', size', .slice as' share'.length cs', share'⟩ : Rc) := ⟨_, rfl⟩
      have HY := Hid.mk' hy
      have HS1 : Hid (rcSame (⟨kind, name, attempt, epoch, mark, size, .slice as_ share.length cs_, share⟩ : Rc) (⟨kind, name, attempt, epoch, mark, size, .slice as_ share.length cs_, share⟩ : Rc) = true) := Hid.mk' (rcSame_yes rfl)
      clear hy
      obtain ⟨ro, hro⟩ : ∃ ro, ro = roleI kind := ⟨_, rfl⟩
      have HRO := Hid.mk' hro
      clear hro
      cases y
      all_goals
        go_region_held3 (fun w' => (∀ o, w'.cell? ⟨g, o, none⟩ = #[.int .i64 kind, .string name, .int .i64 attempt, .int .i64 epoch, .int .i64 mark, .int .i64 size, .slice as_ share.length cs_][o]?) ∧ (∀ o, w'.cell? ⟨g2, o, none⟩ = #[.int .i64 kind', .string name', .int .i64 attempt', .int .i64 epoch', .int .i64 mark', .int .i64 size', .slice as' share'.length cs'][o]?)) (first | (exact And.intro (H25.frz hb1) (H25.frz hb2)) | (exact And.intro (H24.frz hb1) (H24.frz hb2)) | (exact And.intro (H23.frz hb1) (H23.frz hb2)) | (exact And.intro (H22.frz hb1) (H22.frz hb2)) | (exact And.intro (H21.frz hb1) (H21.frz hb2)) | ((repeat' (first | assumption | (with_reducible refine And.intro ?_ ?_) | (with_reducible refine keep_drew ?_) | (with_reducible refine keep_drewN ?_) | (with_reducible refine keep_alloc ?_ (by first | assumption | (simp only [World.size_alloc, World.size_drew, World.size_setCell]; omega))) | (with_reducible refine keep_set ?_ (by first | assumption | omega)))))) (first | (go_at_call 76; refine (recRight_spec (⟨kind, name, attempt, epoch, mark, size, .slice as_ share.length cs_, share⟩ : Rc) H12.drew HM.out HSZ.out).mono ?_; rintro e w21 ⟨rfl, H21⟩; rw [HOK.out]) | (go_at_call 77; refine (role_spec kind _).mono ?_; rintro e wro ⟨rfl, rfl⟩; rw [← HRO.out]) | (go_at_call 78; refine (rrole_spec kind H21).mono ?_; rintro e w22 ⟨rfl, H22⟩; rw [← HRO.out]) | (go_at_call 79; first | (refine (recSame_spec (⟨kind, name, attempt, epoch, mark, size, .slice as_ share.length cs_, share⟩ : Rc) (⟨kind, name, attempt, epoch, mark, size, .slice as_ share.length cs_, share⟩ : Rc) H24 HM.out HSZ.out HM.out HSZ.out).mono ?_; rintro e w25 ⟨rfl, H25⟩; rw [HS1.out]) | (refine (recSame_spec (⟨kind, name, attempt, epoch, mark, size, .slice as_ share.length cs_, share⟩ : Rc) (⟨kind', name', attempt', epoch', mark', size', .slice as' share'.length cs', share'⟩ : Rc) H23 HM.out HSZ.out HX.out HSX.out).mono ?_; rintro e w24 ⟨rfl, H24⟩; rw [← HY.out]) | (refine (recSame_spec (⟨kind, name, attempt, epoch, mark, size, .slice as_ share.length cs_, share⟩ : Rc) (⟨kind', name', attempt', epoch', mark', size', .slice as' share'.length cs', share'⟩ : Rc) H22 HM.out HSZ.out HX.out HSX.out).mono ?_; rintro e w23 ⟨rfl, H23⟩; rw [← HY.out])) | (go_at_call 80; first | (refine (rrecSame_spec (⟨kind, name, attempt, epoch, mark, size, .slice as_ share.length cs_, share⟩ : Rc) (⟨kind', name', attempt', epoch', mark', size', .slice as' share'.length cs', share'⟩ : Rc) H23 HM.out HSZ.out HX.out HSX.out).mono ?_; rintro e w24 ⟨rfl, H24⟩; rw [← HY.out]) | (refine (rrecSame_spec (⟨kind, name, attempt, epoch, mark, size, .slice as_ share.length cs_, share⟩ : Rc) (⟨kind', name', attempt', epoch', mark', size', .slice as' share'.length cs', share'⟩ : Rc) H22 HM.out HSZ.out HX.out HSX.out).mono ?_; rintro e w23 ⟨rfl, H23⟩; rw [← HY.out])))
        go_wp2_with fail
        go_meet
        case rel => exact ⟨rfl, H25⟩
    clear H12
    obtain ⟨rfl, H12⟩ := hcut
    clear l1 n1 c1 l2 n2 c2
    obtain ⟨l1, n1, c1⟩ := Holds.frzFacts (H12) hb1
    go_wp2_with fail
    refine (recCount_spec (⟨kind, name, attempt, epoch, mark, size, .slice as_ share.length cs_, share⟩ : Rc) H12 HM.out HSZ.out).mono ?_
    rintro e w13 ⟨rfl, H13⟩
    rw [if_neg (by rw [HOK.out]; decide)]
    clear H12 l1 n1 c1
    go_wp2_with fail
    refine (alive20 H13 celly_emp).mono ?_
    rintro e w99 ⟨rfl, H99⟩
    go_wp2_with fail
    go_ret
    exact ⟨rfl, hg ▸ H99.toBelow (leA)⟩
  | true =>
    go_wp2_with fail
    refine (recPut_ok (⟨kind, name, attempt, epoch, mark, size, .slice as_ share.length cs_, share⟩ : Rc) H10 celly_emp hT HM.out HSZ.out HOK.out).mono ?_
    rintro e w11 ⟨o, q, rfl, hq, H11⟩
    obtain ⟨R4, le4, H11f, hr⟩ := freezeBB H11
    have HQ := Hid.mk' hq
    replace hb1 := le4.blk _ _ hb1
    replace hb2 := le4.blk _ _ hb2
    replace hT := le4.blk _ _ hT
    replace leA := leA.trans le4
    replace HM := Hid.mk' (HM.out.le le4)
    replace HX := Hid.mk' (HX.out.le le4)
    replace HMO := Hid.mk' (HMO.out.le le4)
    obtain ⟨aa, ca, rfl⟩ := hr.form
    have HA := Hid.mk' hr
    obtain ⟨N, hN⟩ : ∃ N, N = q.length := ⟨_, rfl⟩
    have HN := Hid.mk' hN
    have hN9 : N ≤ 100 := by
      have h := congrArg List.length hq
      rw [List.length_map, putR_len] at h
      have h5 := (rcOk_bounds HOK.out).2.2.2.2.2
      unfold bodiesN at h
      simp only at h5 h
      omega
    rw [← hN]
    clear H10 l1 n1 c1 H11 hr hq hN le4
    obtain ⟨l1, n1, c1⟩ := Holds.frzFacts (H11f) hb1
    go_wp2_with fail
    refine (rrecRight_spec (⟨kind, name, attempt, epoch, mark, size, .slice as_ share.length cs_, share⟩ : Rc) H11f HM.out HSZ.out).mono ?_
    rintro e w12 ⟨rfl, H12⟩
    rw [HOK.out]
    clear H11f l1 n1 c1
    obtain ⟨l1, n1, c1⟩ := Holds.frzFacts (H12) hb1
    obtain ⟨l2, n2, c2⟩ := Holds.frzFacts (H12) hb2
    go_upto_region 6 with fail
    go_cut [62] (fun c wx => c = .bool false ∧ Holds wx R4 (emp))
    case first =>
      obtain ⟨y, hy⟩ : ∃ y, y = rcSame (⟨kind, name, attempt, epoch, mark, size, .slice as_ share.length cs_, share⟩ : Rc) (⟨kind', name', attempt', epoch', mark', size', .slice as' share'.length cs', share'⟩ : Rc) := ⟨_, rfl⟩
      have HY := Hid.mk' hy
      have HS1 : Hid (rcSame (⟨kind, name, attempt, epoch, mark, size, .slice as_ share.length cs_, share⟩ : Rc) (⟨kind, name, attempt, epoch, mark, size, .slice as_ share.length cs_, share⟩ : Rc) = true) := Hid.mk' (rcSame_yes rfl)
      clear hy
      obtain ⟨ro, hro⟩ : ∃ ro, ro = roleI kind := ⟨_, rfl⟩
      have HRO := Hid.mk' hro
      clear hro
      cases y
      all_goals
        go_region_held3 (fun w' => (∀ o, w'.cell? ⟨g, o, none⟩ = #[.int .i64 kind, .string name, .int .i64 attempt, .int .i64 epoch, .int .i64 mark, .int .i64 size, .slice as_ share.length cs_][o]?) ∧ (∀ o, w'.cell? ⟨g2, o, none⟩ = #[.int .i64 kind', .string name', .int .i64 attempt', .int .i64 epoch', .int .i64 mark', .int .i64 size', .slice as' share'.length cs'][o]?)) (first | (exact And.intro (H25.frz hb1) (H25.frz hb2)) | (exact And.intro (H24.frz hb1) (H24.frz hb2)) | (exact And.intro (H23.frz hb1) (H23.frz hb2)) | (exact And.intro (H22.frz hb1) (H22.frz hb2)) | (exact And.intro (H21.frz hb1) (H21.frz hb2)) | ((repeat' (first | assumption | (with_reducible refine And.intro ?_ ?_) | (with_reducible refine keep_drew ?_) | (with_reducible refine keep_drewN ?_) | (with_reducible refine keep_alloc ?_ (by first | assumption | (simp only [World.size_alloc, World.size_drew, World.size_setCell]; omega))) | (with_reducible refine keep_set ?_ (by first | assumption | omega)))))) (first | (go_at_call 76; refine (recRight_spec (⟨kind, name, attempt, epoch, mark, size, .slice as_ share.length cs_, share⟩ : Rc) H12.drew HM.out HSZ.out).mono ?_; rintro e w21 ⟨rfl, H21⟩; rw [HOK.out]) | (go_at_call 77; refine (role_spec kind _).mono ?_; rintro e wro ⟨rfl, rfl⟩; rw [← HRO.out]) | (go_at_call 78; refine (rrole_spec kind H21).mono ?_; rintro e w22 ⟨rfl, H22⟩; rw [← HRO.out]) | (go_at_call 79; first | (refine (recSame_spec (⟨kind, name, attempt, epoch, mark, size, .slice as_ share.length cs_, share⟩ : Rc) (⟨kind, name, attempt, epoch, mark, size, .slice as_ share.length cs_, share⟩ : Rc) H24 HM.out HSZ.out HM.out HSZ.out).mono ?_; rintro e w25 ⟨rfl, H25⟩; rw [HS1.out]) | (refine (recSame_spec (⟨kind, name, attempt, epoch, mark, size, .slice as_ share.length cs_, share⟩ : Rc) (⟨kind', name', attempt', epoch', mark', size', .slice as' share'.length cs', share'⟩ : Rc) H23 HM.out HSZ.out HX.out HSX.out).mono ?_; rintro e w24 ⟨rfl, H24⟩; rw [← HY.out]) | (refine (recSame_spec (⟨kind, name, attempt, epoch, mark, size, .slice as_ share.length cs_, share⟩ : Rc) (⟨kind', name', attempt', epoch', mark', size', .slice as' share'.length cs', share'⟩ : Rc) H22 HM.out HSZ.out HX.out HSX.out).mono ?_; rintro e w23 ⟨rfl, H23⟩; rw [← HY.out])) | (go_at_call 80; first | (refine (rrecSame_spec (⟨kind, name, attempt, epoch, mark, size, .slice as_ share.length cs_, share⟩ : Rc) (⟨kind', name', attempt', epoch', mark', size', .slice as' share'.length cs', share'⟩ : Rc) H23 HM.out HSZ.out HX.out HSX.out).mono ?_; rintro e w24 ⟨rfl, H24⟩; rw [← HY.out]) | (refine (rrecSame_spec (⟨kind, name, attempt, epoch, mark, size, .slice as_ share.length cs_, share⟩ : Rc) (⟨kind', name', attempt', epoch', mark', size', .slice as' share'.length cs', share'⟩ : Rc) H22 HM.out HSZ.out HX.out HSX.out).mono ?_; rintro e w23 ⟨rfl, H23⟩; rw [← HY.out])))
        go_wp2_with fail
        go_meet
        case rel => exact ⟨rfl, H25⟩
    clear H12
    obtain ⟨rfl, H12⟩ := hcut
    clear l1 n1 c1 l2 n2 c2
    have HAN : Hid (Rd R4.cell? 1 (.slice aa N ca) N (q.map Prod.fst)) := Hid.mk' (by rw [HN.out]; exact HA.out.fst)
    have HMN : Hid (Rd R4.cell? 1 (.slice am K cm) K (mo.map Prod.fst)) := Hid.mk' (by rw [HKN.out]; exact HMO.out.fst)
    have hK5 : K ≤ 5 := by omega
    clear h5
    go_wp2_with (with_reducible refine stop_append ?_)
    have H13 := emptySecs H12
    refine Hold.go (wpList_append rfl _ _ rfl undSecs infoBytes rfl (by decide) rfl rfl H13 (Rd.world HAN.out H13) (fst_one HA.out.2) (by simp only [maxLen]; omega) (by omega) ?_)
    intro v14 w14 H14
    clear H13 H12
    go_wp2_with (with_reducible refine stop_append ?_)
    refine Hold.go (wpList_append rfl _ _ rfl undSecs infoBytes rfl (by decide) rfl rfl H14 (Rd.world HMN.out H14) (fst_one HMO.out.2) (by simp only [maxLen]; omega) (by omega) ?_)
    intro v16 w16 H16
    clear H14
    obtain ⟨R5, le5, H17, hr17⟩ := H16.freezeRow
    have hBB : RdBB R5.cell? v16 (q ++ mo) := by
      refine ⟨?_, fun y hy => ?_⟩
      · rw [List.nil_append, Nat.zero_add, HN.out, HKN.out] at hr17
        rw [List.length_append, List.map_append]
        exact hr17
      · rcases List.mem_append.1 hy with h | h
        · exact Rd.le (HA.out.2 y h) le5
        · exact Rd.le (HMO.out.2 y h) le5
    have hql : (q ++ mo).length ≤ 1000 := by rw [List.length_append, ← HN.out, ← HKN.out]; omega
    replace hb1 := le5.blk _ _ hb1
    replace hb2 := le5.blk _ _ hb2
    replace hT := le5.blk _ _ hT
    replace leA := leA.trans le5
    replace HM := Hid.mk' (HM.out.le le5)
    replace HX := Hid.mk' (HX.out.le le5)
    replace HA := Hid.mk' (HA.out.le le5)
    have HBB := Hid.mk' hBB
    have HQL := Hid.mk' hql
    clear H16 hr17 hBB hql le5 HAN HMN
    go_wp2_with fail
    refine recGet_spec H17 celly_emp hT HBB.out HQL.out ?_
    intro R7 M n ok w18 le7 hG hMR hMZ H18
    have hpre : putR (⟨kind, name, attempt, epoch, mark, size, .slice as_ share.length cs_, share⟩ : Rc) <+: (q ++ mo).map Prod.snd := by rw [List.map_append, HQ.out]; exact ⟨_, rfl⟩
    have hG' : ok = true ∧ rcOk M = true ∧ putR M <+: (q ++ mo).map Prod.snd ∧ n = (putR M).length := by
      rcases hG with h | ⟨_, _, _, h4⟩
      · exact h
      · exact absurd hpre (h4 _ HOK.out)
    obtain ⟨rfl, h1, h2, h3⟩ := hG'
    have hcM := put_one h1 HOK.out h2 hpre
    have hpl : (putR (⟨kind, name, attempt, epoch, mark, size, .slice as_ share.length cs_, share⟩ : Rc)).length = N := by rw [← HQ.out, List.length_map, HN.out]
    rw [putR_con hcM, hpl] at h3
    subst h3
    have HSM := Hid.mk' (rcSame_yes hcM)
    have HPL := Hid.mk' hpl
    have HCN : Hid ((if rcOk (⟨kind, name, attempt, epoch, mark, size, .slice as_ share.length cs_, share⟩ : Rc) = true then (putR (⟨kind, name, attempt, epoch, mark, size, .slice as_ share.length cs_, share⟩ : Rc)).length else 0) = n) := Hid.mk' (by rw [if_pos HOK.out, hpl])
    have HMR := Hid.mk' hMR
    have HMZ := Hid.mk' hMZ
    replace hb1 := le7.blk _ _ hb1
    replace hb2 := le7.blk _ _ hb2
    replace leA := leA.trans le7
    replace HM := Hid.mk' (HM.out.le le7)
    replace HA := Hid.mk' (HA.out.le le7)
    clear H17 hG hpre h1 h2 hcM hpl HX HMO
    obtain ⟨kind9, name9, attempt9, epoch9, mark9, size9, vs9, share9⟩ := M
    obtain ⟨z5, z6⟩ := hMZ
    have hs9 := hMR
    simp only [Rc.Rd] at z5 z6 hs9
    obtain ⟨as9, cs9, rfl⟩ := hs9.form
    have hcl : ((⟨kind9, name9, attempt9, epoch9, mark9, size9, .slice as9 share9.length cs9, share9⟩ : Rc)).cells = [.int .i64 kind9, .string name9, .int .i64 attempt9, .int .i64 epoch9, .int .i64 mark9, .int .i64 size9, .slice as9 share9.length cs9] := rfl
    simp only [hcl]
    clear hs9 hMR z5 z6 hcl
    obtain ⟨R8, le8, H19, hb3⟩ := H18.allocR (.cells #[.int .i64 kind9, .string name9, .int .i64 attempt9, .int .i64 epoch9, .int .i64 mark9, .int .i64 size9, .slice as9 share9.length cs9] tRec (0, 0))
    replace hb1 := le8.blk _ _ hb1
    replace leA := leA.trans le8
    replace HM := Hid.mk' (HM.out.le le8)
    replace HA := Hid.mk' (HA.out.le le8)
    replace HMR := Hid.mk' (HMR.out.le le8)
    clear H18 le7 hb2
    go_upto_region 11 with fail
    generalize (World.alloc ..) = w19 at H19 ⊢
    generalize w18.heap.size = g9 at hb3 ⊢
    clear le8 hT
    obtain ⟨l1, n1, c1⟩ := Holds.frzFacts (H19) hb1
    obtain ⟨l3, n3, c3⟩ := Holds.frzFacts (H19) hb3
    go_region_held3 (fun w' => (∀ o, w'.cell? ⟨g, o, none⟩ = #[.int .i64 kind, .string name, .int .i64 attempt, .int .i64 epoch, .int .i64 mark, .int .i64 size, .slice as_ share.length cs_][o]?) ∧ (∀ o, w'.cell? ⟨g9, o, none⟩ = #[.int .i64 kind9, .string name9, .int .i64 attempt9, .int .i64 epoch9, .int .i64 mark9, .int .i64 size9, .slice as9 share9.length cs9][o]?)) (first | (exact And.intro (H27.frz (le22.blk _ _ hb1)) (H27.frz (le22.blk _ _ hb3))) | (exact And.intro (H26.frz (le22.blk _ _ hb1)) (H26.frz (le22.blk _ _ hb3))) | (exact And.intro (H25.frz (le22.blk _ _ hb1)) (H25.frz (le22.blk _ _ hb3))) | (exact And.intro (H24.frz (le22.blk _ _ hb1)) (H24.frz (le22.blk _ _ hb3))) | (exact And.intro (H23.frz (le22.blk _ _ hb1)) (H23.frz (le22.blk _ _ hb3))) | (exact And.intro (H22.frz (le22.blk _ _ hb1)) (H22.frz (le22.blk _ _ hb3))) | ((repeat' (first | assumption | (with_reducible refine And.intro ?_ ?_) | (with_reducible refine keep_drew ?_) | (with_reducible refine keep_drewN ?_) | (with_reducible refine keep_alloc ?_ (by first | assumption | (simp only [World.size_alloc, World.size_drew, World.size_setCell]; omega))) | (with_reducible refine keep_set ?_ (by first | assumption | omega)))))) (first | (go_at_call 83; refine (rrecPut_ok (⟨kind, name, attempt, epoch, mark, size, .slice as_ share.length cs_, share⟩ : Rc) H19.drew HM.out HSZ.out HOK.out).mono ?_; rintro e w21 ⟨o21, q21, rfl, hq21, H21⟩; unfold rowsR at H21; obtain ⟨R22, le22, H22, hr22⟩ := freezeBB H21; have HQ21 := Hid.mk' hq21; have HR22 := Hid.mk' hr22; clear hq21 hr22) | (go_at_call 67; refine (same04_spec H22 (RdBB.le (by have h := HA.out; rw [← HN.out] at h; exact h) le22) HR22.out (putR_lens HQ.out) (putR_lens HQ21.out)).mono ?_; rintro e w23 ⟨rfl, H23⟩; rw [show decide (List.map Prod.snd q = List.map Prod.snd q21) = true from decide_eq_true (HQ.out.trans HQ21.out.symm)]) | (go_at_call 81; first | (refine (recCount_spec (⟨kind, name, attempt, epoch, mark, size, .slice as_ share.length cs_, share⟩ : Rc) H24 (HM.out.le le22) HSZ.out).mono ?_; rintro e w25 ⟨rfl, H25⟩; rw [HCN.out]) | (refine (recCount_spec (⟨kind, name, attempt, epoch, mark, size, .slice as_ share.length cs_, share⟩ : Rc) H23 (HM.out.le le22) HSZ.out).mono ?_; rintro e w24 ⟨rfl, H24⟩; rw [HCN.out])) | (go_at_call 84; first | (refine (rrecCount_spec (⟨kind, name, attempt, epoch, mark, size, .slice as_ share.length cs_, share⟩ : Rc) H24 (HM.out.le le22) HSZ.out).mono ?_; rintro e w25 ⟨rfl, H25⟩; rw [HPL.out]) | (refine (rrecCount_spec (⟨kind, name, attempt, epoch, mark, size, .slice as_ share.length cs_, share⟩ : Rc) H23 (HM.out.le le22) HSZ.out).mono ?_; rintro e w24 ⟨rfl, H24⟩; rw [HPL.out])) | (go_at_call 80; refine (rrecSame_spec (⟨kind9, name9, attempt9, epoch9, mark9, size9, .slice as9 share9.length cs9, share9⟩ : Rc) (⟨kind, name, attempt, epoch, mark, size, .slice as_ share.length cs_, share⟩ : Rc) H25 (HMR.out.le le22) HMZ.out (HM.out.le le22) HSZ.out).mono ?_; rintro e w26 ⟨rfl, H26⟩; rw [HSM.out]) | (go_at_call 73; refine (alive20 H26 celly_emp).mono ?_; rintro e w27 ⟨rfl, H27⟩))
    all_goals
      go_wp2_with fail
      go_ret
      exact ⟨rfl, hg ▸ H27.toBelow (leA.trans le22)⟩
theorem recordPuts_walk (W : World) {m x : Rc} {vm : Value} {mo : List (Value × List UInt8)} (hm : m.Rd W.cell? ∧ m.name.size ≤ maxLen) (hx : x.Rd W.cell? ∧ x.name.size ≤ maxLen) (h : Rd W.cell? 1 vm mo.length (mo.flatMap fun q => [q.1])) (hg : ∀ q ∈ mo, RdB W.cell? q.1 q.2) :
    Calls Try.prog 15 #[.agg m.cells.toArray, .agg x.cells.toArray, vm] W fun e w' => e = .returned (.bool true) ∧ Below W.heap.size W w' := recordPuts_walk0 W hm hx (secs_of h hg)
end Sh
