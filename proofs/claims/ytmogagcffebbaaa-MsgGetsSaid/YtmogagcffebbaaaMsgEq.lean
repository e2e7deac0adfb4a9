/- slices.Equal of numbers and of texts; msg.Same. -/
import Derived.Test.YtmogagcffebbaaaMsgAll
import Derived.Test.YtmogagcffebbaaaBytesEq
set_option linter.unusedVariables false
set_option linter.unusedSimpArgs false
namespace Sh
open Go Go.RowKit Go.Proofs
attribute [local go_sem ↓] Go.wp_at_zero Go.wp_at_succ
set_option maxHeartbeats 1000000
set_option maxRecDepth 100000

theorem eqInts_spec {w : World} {R : Snap} {L : Asrt} {u v : Value} {l k : List Int} (H : Holds w R L) (hu : ∀ w', Holds w' R L → RdI w'.cell? u l) (hv : ∀ w', Holds w' R L → RdI w'.cell? v k) (hl : l.length ≤ 1000000) (hk : k.length ≤ 1000000) :
    Calls Try.prog 122 #[u, v] w fun e w' => e = .returned (.bool (decide (l = k))) ∧ Holds w' R L := by
  obtain ⟨a, ca, rfl⟩ := (hu w H).form
  obtain ⟨b, cb, rfl⟩ := (hv w H).form
  by_cases hlen : l.length = k.length
  · obtain ⟨n, hn⟩ : ∃ n, n = k.length := ⟨_, rfl⟩
    have HL : Hid (l.length = n) := Hid.mk' (by omega)
    have HK : Hid (k.length = n) := Hid.mk' hn.symm
    have HU := Hid.mk' hu
    have HV := Hid.mk' hv
    rw [hlen, ← hn]
    have hn9 : n ≤ 1000000 := by omega
    clear hlen hn hu hv
    go_enter Try.func122, Try.ntmps122
    go_wp2_with fail
    go_loopw [13] (fun i wr => ∃ j : Nat, i = .int .i64 j ∧ j ≤ n ∧ Hid (l.take j = k.take j) ∧ Holds wr R L) (fun i _ => n - (intOf i).toNat)
    case atStart => exact ⟨0, rfl, Nat.zero_le _, rfl, H⟩
    case round =>
      clear H
      obtain ⟨j, rfl, hj, ht, H1⟩ := hrel
      by_cases hlt : j < n
      · have hjl : j < l.length := by have := HL.out; omega
        have hjk : j < k.length := by have := HK.out; omega
        have hu1 := HU.out _ H1
        have hv1 := HV.out _ H1
        obtain ⟨b1, o1, ha, c1⟩ := rdI_at hu1 hjl
        subst ha
        obtain ⟨b2, o2, ha, c2⟩ := rdI_at hv1 hjk
        subst ha
        obtain ⟨x, hx⟩ : ∃ x, x = l[j] := ⟨_, rfl⟩
        obtain ⟨y, hy⟩ : ∃ y, y = k[j] := ⟨_, rfl⟩
        rw [← hx] at c1
        rw [← hy] at c2
        have HXY := Hid.mk' (And.intro hx hy)
        clear hx hy hu1 hv1
        cases hxy : x != y with
        | true =>
          go_wp2_with fail
          go_quiet (fail)
          go_wp2_with fail
          go_ret
          refine ⟨ret_bool ?_, H1.drewN _⟩
          symm; rw [decide_eq_false_iff_not]
          intro e
          have h1 := HXY.out.1
          have h2 := HXY.out.2
          subst e
          rw [h1, h2] at hxy
          simp at hxy
        | false =>
          go_wp2_with fail
          go_quiet (fail)
          go_wp2_with fail
          go_roundw
          case rel =>
            refine ⟨j + 1, by go_num, hlt, Hid.mk' ?_, H1.drewN _⟩
            have e : x = y := by simpa using hxy
            exact take_snoc_any hjl hjk ht.out (by rw [← HXY.out.1, ← HXY.out.2, e])
          case measure => simp [intOf]; omega
      · go_wp2_with fail
        go_ret
        refine ⟨ret_bool ?_, H1⟩
        symm; rw [decide_eq_true_eq]
        have h1 := ht.out
        have h2 := HL.out
        have h3 := HK.out
        rwa [List.take_of_length_le (by omega), List.take_of_length_le (by omega)] at h1
  · have h1 : ((l.length : Int) != (k.length : Int)) = true := by simp; omega
    go_enter Try.func122, Try.ntmps122
    go_wp2_with fail
    go_ret
    exact ⟨ret_bool (by symm; rw [decide_eq_false_iff_not]; rintro rfl; exact hlen rfl), H⟩
theorem eqStrs_spec {w : World} {R : Snap} {L : Asrt} {u v : Value} {l k : List ByteArray} (H : Holds w R L) (hu : ∀ w', Holds w' R L → RdS w'.cell? u l) (hv : ∀ w', Holds w' R L → RdS w'.cell? v k) (hl : l.length ≤ 1000000) (hk : k.length ≤ 1000000) :
    Calls Try.prog 123 #[u, v] w fun e w' => e = .returned (.bool (decide (l = k))) ∧ Holds w' R L := by
  obtain ⟨a, ca, rfl⟩ := (hu w H).form
  obtain ⟨b, cb, rfl⟩ := (hv w H).form
  by_cases hlen : l.length = k.length
  · obtain ⟨n, hn⟩ : ∃ n, n = k.length := ⟨_, rfl⟩
    have HL : Hid (l.length = n) := Hid.mk' (by omega)
    have HK : Hid (k.length = n) := Hid.mk' hn.symm
    have HU := Hid.mk' hu
    have HV := Hid.mk' hv
    rw [hlen, ← hn]
    have hn9 : n ≤ 1000000 := by omega
    clear hlen hn hu hv
    go_enter Try.func123, Try.ntmps123
    go_wp2_with fail
    go_loopw [13] (fun i wr => ∃ j : Nat, i = .int .i64 j ∧ j ≤ n ∧ Hid (l.take j = k.take j) ∧ Holds wr R L) (fun i _ => n - (intOf i).toNat)
    case atStart => exact ⟨0, rfl, Nat.zero_le _, rfl, H⟩
    case round =>
      clear H
      obtain ⟨j, rfl, hj, ht, H1⟩ := hrel
      by_cases hlt : j < n
      · have hjl : j < l.length := by have := HL.out; omega
        have hjk : j < k.length := by have := HK.out; omega
        have hu1 := HU.out _ H1
        have hv1 := HV.out _ H1
        obtain ⟨b1, o1, ha, c1⟩ := rdS_at hu1 hjl
        subst ha
        obtain ⟨b2, o2, ha, c2⟩ := rdS_at hv1 hjk
        subst ha
        obtain ⟨x, hx⟩ : ∃ x, x = l[j] := ⟨_, rfl⟩
        obtain ⟨y, hy⟩ : ∃ y, y = k[j] := ⟨_, rfl⟩
        rw [← hx] at c1
        rw [← hy] at c2
        have HXY := Hid.mk' (And.intro hx hy)
        clear hx hy hu1 hv1
        go_wp2_with fail
        go_quiet (fail)
        go_wp2_with fail
        · rename_i hxy
          go_ret
          refine ⟨ret_bool ?_, H1.drewN _⟩
          symm; rw [decide_eq_false_iff_not]
          intro e
          have h1 := HXY.out.1
          have h2 := HXY.out.2
          have h3 : x = y := by rw [h1, h2]; subst e; rfl
          rw [strEq, h3] at hxy
          simp at hxy
        · rename_i hxy
          go_roundw
          case rel =>
            refine ⟨j + 1, by go_num, hlt, Hid.mk' ?_, H1.drewN _⟩
            rw [strEq] at hxy
            have e : x = y := by simpa using hxy
            exact take_snoc_any hjl hjk ht.out (by rw [← HXY.out.1, ← HXY.out.2, e])
          case measure => simp [intOf]; omega
      · go_wp2_with fail
        go_ret
        refine ⟨ret_bool ?_, H1⟩
        symm; rw [decide_eq_true_eq]
        have h1 := ht.out
        have h2 := HL.out
        have h3 := HK.out
        rwa [List.take_of_length_le (by omega), List.take_of_length_le (by omega)] at h1
  · have h1 : ((l.length : Int) != (k.length : Int)) = true := by simp; omega
    go_enter Try.func123, Try.ntmps123
    go_wp2_with fail
    go_ret
    exact ⟨ret_bool (by symm; rw [decide_eq_false_iff_not]; rintro rfl; exact hlen rfl), H⟩
theorem msSame_false {m x : Ms} (h : ¬ m.con = x.con) : false = msSame m x := by
  symm; rw [Bool.eq_false_iff]; intro h2; exact h (msSame_of h2)
set_option maxHeartbeats 30000000
theorem msame_spec {w : World} {R : Snap} {L : Asrt} (m x : Ms) (H : Holds w R L) (hm : m.Rd R.cell?) (hz : m.Sz) (hx : x.Rd R.cell?) (hzx : x.Sz) :
    Calls Try.prog 54 #[.agg m.cells.toArray, .agg x.cells.toArray] w fun e w' => e = .returned (.bool (msSame m x)) ∧ Holds w' R L := by
  obtain ⟨y, hy⟩ : ∃ y, y = msSame m x := ⟨_, rfl⟩
  rw [← hy]
  obtain ⟨kind, from_, to_, ballot, name, attempt, epoch, mark, size, what, vw, vn, vd, who, names, data⟩ := m
  obtain ⟨hw, hn, hd⟩ := hm
  obtain ⟨z1, z2, z3, z4, z5⟩ := hz
  simp only at z1 z2 z3 z4 z5 hw hn hd
  obtain ⟨aw, cw, rfl⟩ := hw.form
  obtain ⟨an, cn, rfl⟩ := hn.form
  obtain ⟨ad, cd, rfl⟩ := hd.form
  obtain ⟨y1, y2, y3, y4, y5⟩ := hzx
  obtain ⟨kind', from', to', ballot', name', attempt', epoch', mark', size', what', vw', vn', vd', who', names', data'⟩ := x
  obtain ⟨hw', hn', hd'⟩ := hx
  simp only at hw' hn' hd'
  obtain ⟨aw', cw', rfl⟩ := hw'.form
  obtain ⟨an', cn', rfl⟩ := hn'.form
  obtain ⟨ad', cd', rfl⟩ := hd'.form
  simp only at y1 y2 y3 y4 y5
  obtain ⟨R1, le1, H1, hb⟩ := H.allocR (.cells #[.int .i64 kind, .int .i64 from_, .int .i64 to_, .int .i64 ballot, .string name, .int .i64 attempt, .int .i64 epoch, .int .i64 mark, .int .i64 size, .int .i64 what, .slice aw who.length cw, .slice an names.length cn, .slice ad data.length cd] tMsg (0, 0))
  obtain ⟨R2, le2, H2, hb2⟩ := H1.allocR (.cells #[.int .i64 kind', .int .i64 from', .int .i64 to', .int .i64 ballot', .string name', .int .i64 attempt', .int .i64 epoch', .int .i64 mark', .int .i64 size', .int .i64 what', .slice aw' who'.length cw', .slice an' names'.length cn', .slice ad' data'.length cd'] tMsg (0, 0))
  simp only [World.size_alloc] at hb2
  have hb1 := le2.blk _ _ hb
  have le := le1.trans le2
  have HY := Hid.mk' hy
  have HW := Hid.mk' (Rd.le hw le)
  have HN := Hid.mk' (Rd.le hn le)
  have HD := Hid.mk' (Rd.le hd le)
  have HW' := Hid.mk' (Rd.le hw' le)
  have HN' := Hid.mk' (Rd.le hn' le)
  have HD' := Hid.mk' (Rd.le hd' le)
  obtain ⟨l4, n4, c4⟩ := Holds.frzFacts (H2) hb1
  obtain ⟨l5, n5, c5⟩ := Holds.frzFacts (H2) hb2
  show Calls _ _ #[.agg #[.int .i64 kind, .int .i64 from_, .int .i64 to_, .int .i64 ballot, .string name, .int .i64 attempt, .int .i64 epoch, .int .i64 mark, .int .i64 size, .int .i64 what, .slice aw who.length cw, .slice an names.length cn, .slice ad data.length cd], .agg #[.int .i64 kind', .int .i64 from', .int .i64 to', .int .i64 ballot', .string name', .int .i64 attempt', .int .i64 epoch', .int .i64 mark', .int .i64 size', .int .i64 what', .slice aw' who'.length cw', .slice an' names'.length cn', .slice ad' data'.length cd']] _ _
  have NO : Hid (((⟨kind, from_, to_, ballot, name, attempt, epoch, mark, size, what, .slice aw who.length cw, .slice an names.length cn, .slice ad data.length cd, who, names, data⟩ : Ms)).con ≠ ((⟨kind', from', to', ballot', name', attempt', epoch', mark', size', what', .slice aw' who'.length cw', .slice an' names'.length cn', .slice ad' data'.length cd', who', names', data'⟩ : Ms)).con → false = y) := Hid.mk' (fun h => by rw [HY.out]; exact msSame_false h)
  clear hw hn hd hw' hn' hd' hy hb H H1
  by_cases q1 : kind = kind'
  case neg =>
    have u1 : (kind != kind') = true := by simpa using q1
    have Q1 := Hid.mk' q1
    clear q1
    go_enter Try.func54, Try.ntmps54
    go_wp2_with fail
    go_ret
    exact ⟨ret_bool (NO.out (fun h => Q1.out (by simp only [Ms.con, Prod.mk.injEq, List.cons.injEq] at h; simp only [h]))), H2.weaken le⟩
  have u1 : (kind != kind') = false := by simpa using q1
  have Q1 := Hid.mk' q1
  clear q1
  by_cases q2 : from_ = from'
  case neg =>
    have u2 : (from_ != from') = true := by simpa using q2
    have Q2 := Hid.mk' q2
    clear q2
    go_enter Try.func54, Try.ntmps54
    go_wp2_with fail
    go_ret
    exact ⟨ret_bool (NO.out (fun h => Q2.out (by simp only [Ms.con, Prod.mk.injEq, List.cons.injEq] at h; simp only [h]))), H2.weaken le⟩
  have u2 : (from_ != from') = false := by simpa using q2
  have Q2 := Hid.mk' q2
  clear q2
  by_cases q3 : to_ = to'
  case neg =>
    have u3 : (to_ != to') = true := by simpa using q3
    have Q3 := Hid.mk' q3
    clear q3
    go_enter Try.func54, Try.ntmps54
    go_wp2_with fail
    go_ret
    exact ⟨ret_bool (NO.out (fun h => Q3.out (by simp only [Ms.con, Prod.mk.injEq, List.cons.injEq] at h; simp only [h]))), H2.weaken le⟩
  have u3 : (to_ != to') = false := by simpa using q3
  have Q3 := Hid.mk' q3
  clear q3
  by_cases q4 : ballot = ballot'
  case neg =>
    have u4 : (ballot != ballot') = true := by simpa using q4
    have Q4 := Hid.mk' q4
    clear q4
    go_enter Try.func54, Try.ntmps54
    go_wp2_with fail
    go_ret
    exact ⟨ret_bool (NO.out (fun h => Q4.out (by simp only [Ms.con, Prod.mk.injEq, List.cons.injEq] at h; simp only [h]))), H2.weaken le⟩
  have u4 : (ballot != ballot') = false := by simpa using q4
  have Q4 := Hid.mk' q4
  clear q4
  by_cases q5 : name = name'
  case neg =>
    have u5 : (name.toList == name'.toList) = false := by rw [strEq]; simpa using q5
    have Q5 := Hid.mk' q5
    clear q5
    go_enter Try.func54, Try.ntmps54
    go_wp2_with fail
    go_ret
    exact ⟨ret_bool (NO.out (fun h => Q5.out (by simp only [Ms.con, Prod.mk.injEq] at h; exact h.2.1))), H2.weaken le⟩
  have u5 : (name.toList == name'.toList) = true := by rw [strEq]; simpa using q5
  have Q5 := Hid.mk' q5
  clear q5
  by_cases q6 : attempt = attempt'
  case neg =>
    have u6 : (attempt != attempt') = true := by simpa using q6
    have Q6 := Hid.mk' q6
    clear q6
    go_enter Try.func54, Try.ntmps54
    go_wp2_with fail
    go_ret
    exact ⟨ret_bool (NO.out (fun h => Q6.out (by simp only [Ms.con, Prod.mk.injEq, List.cons.injEq] at h; simp only [h]))), H2.weaken le⟩
  have u6 : (attempt != attempt') = false := by simpa using q6
  have Q6 := Hid.mk' q6
  clear q6
  by_cases q7 : epoch = epoch'
  case neg =>
    have u7 : (epoch != epoch') = true := by simpa using q7
    have Q7 := Hid.mk' q7
    clear q7
    go_enter Try.func54, Try.ntmps54
    go_wp2_with fail
    go_ret
    exact ⟨ret_bool (NO.out (fun h => Q7.out (by simp only [Ms.con, Prod.mk.injEq, List.cons.injEq] at h; simp only [h]))), H2.weaken le⟩
  have u7 : (epoch != epoch') = false := by simpa using q7
  have Q7 := Hid.mk' q7
  clear q7
  by_cases q8 : mark = mark'
  case neg =>
    have u8 : (mark != mark') = true := by simpa using q8
    have Q8 := Hid.mk' q8
    clear q8
    go_enter Try.func54, Try.ntmps54
    go_wp2_with fail
    go_ret
    exact ⟨ret_bool (NO.out (fun h => Q8.out (by simp only [Ms.con, Prod.mk.injEq, List.cons.injEq] at h; simp only [h]))), H2.weaken le⟩
  have u8 : (mark != mark') = false := by simpa using q8
  have Q8 := Hid.mk' q8
  clear q8
  by_cases q9 : size = size'
  case neg =>
    have u9 : (size != size') = true := by simpa using q9
    have Q9 := Hid.mk' q9
    clear q9
    go_enter Try.func54, Try.ntmps54
    go_wp2_with fail
    go_ret
    exact ⟨ret_bool (NO.out (fun h => Q9.out (by simp only [Ms.con, Prod.mk.injEq, List.cons.injEq] at h; simp only [h]))), H2.weaken le⟩
  have u9 : (size != size') = false := by simpa using q9
  have Q9 := Hid.mk' q9
  clear q9
  by_cases q10 : what = what'
  case neg =>
    have u10 : (what != what') = true := by simpa using q10
    have Q10 := Hid.mk' q10
    clear q10
    go_enter Try.func54, Try.ntmps54
    go_wp2_with fail
    go_ret
    exact ⟨ret_bool (NO.out (fun h => Q10.out (by simp only [Ms.con, Prod.mk.injEq, List.cons.injEq] at h; simp only [h]))), H2.weaken le⟩
  have u10 : (what != what') = false := by simpa using q10
  have Q10 := Hid.mk' q10
  clear q10
  go_enter Try.func54, Try.ntmps54
  go_wp2_with fail
  refine (eqInts_spec H2 (fun w' h => Rd.world HW.out h) (fun w' h => Rd.world HW'.out h) z3 y3).mono ?_
  rintro e w6 ⟨rfl, H6⟩
  clear H2 l4 n4 c4 l5 n5 c5
  obtain ⟨l4, n4, c4⟩ := Holds.frzFacts (H6) hb1
  obtain ⟨l5, n5, c5⟩ := Holds.frzFacts (H6) hb2
  by_cases p3 : who = who'
  case neg =>
    rw [decide_eq_false p3]
    have P3 := Hid.mk' p3
    clear p3
    go_wp2_with fail
    go_ret
    exact ⟨ret_bool (NO.out (fun h => P3.out (by simp only [Ms.con, Prod.mk.injEq] at h; exact h.2.2.1))), H6.weaken le⟩
  rw [decide_eq_true p3]
  have P3 := Hid.mk' p3
  clear p3
  go_wp2_with fail
  refine (eqStrs_spec H6 (fun w' h => Rd.world HN.out h) (fun w' h => Rd.world HN'.out h) z4 y4).mono ?_
  rintro e w7 ⟨rfl, H7⟩
  clear H6 l4 n4 c4 l5 n5 c5
  obtain ⟨l4, n4, c4⟩ := Holds.frzFacts (H7) hb1
  obtain ⟨l5, n5, c5⟩ := Holds.frzFacts (H7) hb2
  by_cases p4 : names = names'
  case neg =>
    rw [decide_eq_false p4]
    have P4 := Hid.mk' p4
    clear p4
    go_wp2_with fail
    go_ret
    exact ⟨ret_bool (NO.out (fun h => P4.out (by simp only [Ms.con, Prod.mk.injEq] at h; exact h.2.2.2.1))), H7.weaken le⟩
  rw [decide_eq_true p4]
  have P4 := Hid.mk' p4
  clear p4
  go_wp2_with fail
  refine (bytesEqual_spec (Rd.world HD.out H7) (Rd.world HD'.out H7)).mono ?_
  rintro e w8 ⟨rfl, rfl⟩
  go_wp2_with fail
  go_ret
  exact ⟨ret_bool (by rw [HY.out]; refine msSame_yes ?_ ?_ ?_ ?_ ?_ ?_; (show [_, _, _, _, _, _, _, _, _] = [_, _, _, _, _, _, _, _, _]; rw [Q1.out, Q2.out, Q3.out, Q4.out, Q6.out, Q7.out, Q8.out, Q9.out, Q10.out]); exact Q5.out; exact P3.out; exact P4.out; rfl; rfl), H7.weaken le⟩
end Sh
