/- Are two records the same? Both. -/
import Derived.Test.YtmogagcffebbaaaRec
import Derived.Test.YtmogagcffebbaaaMsgSame
set_option linter.unusedVariables false
set_option linter.unusedSimpArgs false
namespace Sh
open Go Go.RowKit Go.Proofs
attribute [local go_sem ↓] Go.wp_at_zero Go.wp_at_succ
set_option maxHeartbeats 1000000
set_option maxRecDepth 100000

def rcSame (m x : Rc) : Bool := decide (m.con = x.con)
theorem rcSame_yes {m x : Rc} (h : m.con = x.con) : rcSame m x = true := decide_eq_true h
theorem rcSame_of {m x : Rc} (h : rcSame m x = true) : m.con = x.con := of_decide_eq_true h
set_option maxHeartbeats 8000000
theorem recSame_spec {w : World} {R : Snap} {L : Asrt} (m x : Rc) (H : Holds w R L) (hm : m.Rd R.cell?) (hz : m.Sz) (hx : x.Rd R.cell?) (hzx : x.Sz) :
    Calls Try.prog 79 #[.agg m.cells.toArray, .agg x.cells.toArray] w fun e w' => e = .returned (.bool (rcSame m x)) ∧ Holds w' R L := by
  obtain ⟨y, hy⟩ : ∃ y, y = rcSame m x := ⟨_, rfl⟩
  rw [← hy]
  obtain ⟨kind, name, attempt, epoch, mark, size, vs, share⟩ := m
  obtain ⟨z1, z2⟩ := hz
  have hs := hm
  simp only [Rc.Rd] at z1 z2 hs
  obtain ⟨as_, cs_, rfl⟩ := hs.form
  obtain ⟨kind', name', attempt', epoch', mark', size', vs', share'⟩ := x
  obtain ⟨z3, z4⟩ := hzx
  have hs' := hx
  simp only [Rc.Rd] at z3 z4 hs'
  obtain ⟨as', cs', rfl⟩ := hs'.form
  obtain ⟨R1, le1, H1, hb⟩ := H.allocR (.cells #[.int .i64 kind, .string name, .int .i64 attempt, .int .i64 epoch, .int .i64 mark, .int .i64 size, .slice as_ share.length cs_] tRec (0, 0))
  obtain ⟨R2, le2, H2, hb2⟩ := H1.allocR (.cells #[.int .i64 kind', .string name', .int .i64 attempt', .int .i64 epoch', .int .i64 mark', .int .i64 size', .slice as' share'.length cs'] tRec (0, 0))
  simp only [World.size_alloc] at hb2
  have hb1 := le2.blk _ _ hb
  have le := le1.trans le2
  have HY := Hid.mk' hy
  have HS := Hid.mk' (Sh.Rd.le hs le)
  have HS' := Hid.mk' (Sh.Rd.le hs' le)
  have Z2 := Hid.mk' z2
  have Z4 := Hid.mk' z4
  obtain ⟨l4, n4, c4⟩ := Holds.frzFacts (H2) hb1
  obtain ⟨l5, n5, c5⟩ := Holds.frzFacts (H2) hb2
  show Calls _ _ #[.agg #[.int .i64 kind, .string name, .int .i64 attempt, .int .i64 epoch, .int .i64 mark, .int .i64 size, .slice as_ share.length cs_], .agg #[.int .i64 kind', .string name', .int .i64 attempt', .int .i64 epoch', .int .i64 mark', .int .i64 size', .slice as' share'.length cs']] _ _
  have NO : Hid (((⟨kind, name, attempt, epoch, mark, size, .slice as_ share.length cs_, share⟩ : Rc)).con ≠ ((⟨kind', name', attempt', epoch', mark', size', .slice as' share'.length cs', share'⟩ : Rc)).con → false = y) := Hid.mk' (fun h => by rw [HY.out]; exact (decide_eq_false h).symm)
  have es := strEq name name'
  clear hs hs' hy hb H H1 z1 z2 z3 z4 hm hx
  by_cases q : kind = kind'
  case neg =>
    have u : (kind == kind') = false := by simpa using q
    have Q := Hid.mk' q
    clear q
    go_enter Try.func79, Try.ntmps79
    go_wp2_with fail
    go_ret
    exact ⟨ret_bool (NO.out (fun h => Q.out (by simp only [Rc.con, Prod.mk.injEq, List.cons.injEq] at h; simp only [h]))), H2.weaken le⟩
  have u0 : (kind == kind') = true := by simpa using q
  have Q0 := Hid.mk' q
  clear q
  by_cases q : name = name'
  case neg =>
    rw [decide_eq_false q] at es
    have Q := Hid.mk' q
    clear q
    go_enter Try.func79, Try.ntmps79
    go_wp2_with fail
    go_ret
    exact ⟨ret_bool (NO.out (fun h => Q.out (by simp only [Rc.con, Prod.mk.injEq, List.cons.injEq] at h; simp only [h]))), H2.weaken le⟩
  rw [decide_eq_true q] at es
  have Q1 := Hid.mk' q
  clear q
  by_cases q : attempt = attempt'
  case neg =>
    have u : (attempt == attempt') = false := by simpa using q
    have Q := Hid.mk' q
    clear q
    go_enter Try.func79, Try.ntmps79
    go_wp2_with fail
    go_ret
    exact ⟨ret_bool (NO.out (fun h => Q.out (by simp only [Rc.con, Prod.mk.injEq, List.cons.injEq] at h; simp only [h]))), H2.weaken le⟩
  have u2 : (attempt == attempt') = true := by simpa using q
  have Q2 := Hid.mk' q
  clear q
  by_cases q : epoch = epoch'
  case neg =>
    have u : (epoch == epoch') = false := by simpa using q
    have Q := Hid.mk' q
    clear q
    go_enter Try.func79, Try.ntmps79
    go_wp2_with fail
    go_ret
    exact ⟨ret_bool (NO.out (fun h => Q.out (by simp only [Rc.con, Prod.mk.injEq, List.cons.injEq] at h; simp only [h]))), H2.weaken le⟩
  have u3 : (epoch == epoch') = true := by simpa using q
  have Q3 := Hid.mk' q
  clear q
  by_cases q : mark = mark'
  case neg =>
    have u : (mark == mark') = false := by simpa using q
    have Q := Hid.mk' q
    clear q
    go_enter Try.func79, Try.ntmps79
    go_wp2_with fail
    go_ret
    exact ⟨ret_bool (NO.out (fun h => Q.out (by simp only [Rc.con, Prod.mk.injEq, List.cons.injEq] at h; simp only [h]))), H2.weaken le⟩
  have u4 : (mark == mark') = true := by simpa using q
  have Q4 := Hid.mk' q
  clear q
  by_cases q : size = size'
  case neg =>
    have u : (size == size') = false := by simpa using q
    have Q := Hid.mk' q
    clear q
    go_enter Try.func79, Try.ntmps79
    go_wp2_with fail
    go_ret
    exact ⟨ret_bool (NO.out (fun h => Q.out (by simp only [Rc.con, Prod.mk.injEq, List.cons.injEq] at h; simp only [h]))), H2.weaken le⟩
  have u5 : (size == size') = true := by simpa using q
  have Q5 := Hid.mk' q
  clear q
  go_enter Try.func79, Try.ntmps79
  go_wp2_with fail
  refine (bytesEqual_spec (Rd.world HS.out H2) (Rd.world HS'.out H2)).mono ?_
  rintro e w8 ⟨rfl, rfl⟩
  have H3 := H2
  go_wp2_with fail
  go_ret
  refine ⟨ret_bool ?_, (H3).weaken le⟩
  rw [HY.out, rcSame]
  congr 1
  simp only [Rc.con, Q0.out, Q1.out, Q2.out, Q3.out, Q4.out, Q5.out, Prod.mk.injEq, true_and]
theorem rrecSame_spec {w : World} {R : Snap} {L : Asrt} (m x : Rc) (H : Holds w R L) (hm : m.Rd R.cell?) (hz : m.Sz) (hx : x.Rd R.cell?) (hzx : x.Sz) :
    Calls Try.prog 80 #[.agg m.cells.toArray, .agg x.cells.toArray] w fun e w' => e = .returned (.bool (rcSame m x)) ∧ Holds w' R L := by
  obtain ⟨y, hy⟩ : ∃ y, y = rcSame m x := ⟨_, rfl⟩
  rw [← hy]
  obtain ⟨kind, name, attempt, epoch, mark, size, vs, share⟩ := m
  obtain ⟨z1, z2⟩ := hz
  have hs := hm
  simp only [Rc.Rd] at z1 z2 hs
  obtain ⟨as_, cs_, rfl⟩ := hs.form
  obtain ⟨kind', name', attempt', epoch', mark', size', vs', share'⟩ := x
  obtain ⟨z3, z4⟩ := hzx
  have hs' := hx
  simp only [Rc.Rd] at z3 z4 hs'
  obtain ⟨as', cs', rfl⟩ := hs'.form
  obtain ⟨R1, le1, H1, hb⟩ := H.allocR (.cells #[.int .i64 kind, .string name, .int .i64 attempt, .int .i64 epoch, .int .i64 mark, .int .i64 size, .slice as_ share.length cs_] tRec (0, 0))
  obtain ⟨R2, le2, H2, hb2⟩ := H1.allocR (.cells #[.int .i64 kind', .string name', .int .i64 attempt', .int .i64 epoch', .int .i64 mark', .int .i64 size', .slice as' share'.length cs'] tRec (0, 0))
  simp only [World.size_alloc] at hb2
  have hb1 := le2.blk _ _ hb
  have le := le1.trans le2
  have HY := Hid.mk' hy
  have HS := Hid.mk' (Sh.Rd.le hs le)
  have HS' := Hid.mk' (Sh.Rd.le hs' le)
  have Z2 := Hid.mk' z2
  have Z4 := Hid.mk' z4
  obtain ⟨l4, n4, c4⟩ := Holds.frzFacts (H2) hb1
  obtain ⟨l5, n5, c5⟩ := Holds.frzFacts (H2) hb2
  show Calls _ _ #[.agg #[.int .i64 kind, .string name, .int .i64 attempt, .int .i64 epoch, .int .i64 mark, .int .i64 size, .slice as_ share.length cs_], .agg #[.int .i64 kind', .string name', .int .i64 attempt', .int .i64 epoch', .int .i64 mark', .int .i64 size', .slice as' share'.length cs']] _ _
  have NO : Hid (((⟨kind, name, attempt, epoch, mark, size, .slice as_ share.length cs_, share⟩ : Rc)).con ≠ ((⟨kind', name', attempt', epoch', mark', size', .slice as' share'.length cs', share'⟩ : Rc)).con → false = y) := Hid.mk' (fun h => by rw [HY.out]; exact (decide_eq_false h).symm)
  have es := strEq name name'
  clear hs hs' hy hb H H1 z1 z2 z3 z4 hm hx
  by_cases q : kind = kind'
  case neg =>
    have u : (kind == kind') = false := by simpa using q
    have Q := Hid.mk' q
    clear q
    go_enter Try.func80, Try.ntmps80
    go_wp2_with fail
    go_ret
    exact ⟨ret_bool (NO.out (fun h => Q.out (by simp only [Rc.con, Prod.mk.injEq, List.cons.injEq] at h; simp only [h]))), H2.weaken le⟩
  have u0 : (kind == kind') = true := by simpa using q
  have Q0 := Hid.mk' q
  clear q
  by_cases q : name = name'
  case neg =>
    rw [decide_eq_false q] at es
    have Q := Hid.mk' q
    clear q
    go_enter Try.func80, Try.ntmps80
    go_wp2_with fail
    go_ret
    exact ⟨ret_bool (NO.out (fun h => Q.out (by simp only [Rc.con, Prod.mk.injEq, List.cons.injEq] at h; simp only [h]))), H2.weaken le⟩
  rw [decide_eq_true q] at es
  have Q1 := Hid.mk' q
  clear q
  by_cases q : attempt = attempt'
  case neg =>
    have u : (attempt == attempt') = false := by simpa using q
    have Q := Hid.mk' q
    clear q
    go_enter Try.func80, Try.ntmps80
    go_wp2_with fail
    go_ret
    exact ⟨ret_bool (NO.out (fun h => Q.out (by simp only [Rc.con, Prod.mk.injEq, List.cons.injEq] at h; simp only [h]))), H2.weaken le⟩
  have u2 : (attempt == attempt') = true := by simpa using q
  have Q2 := Hid.mk' q
  clear q
  by_cases q : epoch = epoch'
  case neg =>
    have u : (epoch == epoch') = false := by simpa using q
    have Q := Hid.mk' q
    clear q
    go_enter Try.func80, Try.ntmps80
    go_wp2_with fail
    go_ret
    exact ⟨ret_bool (NO.out (fun h => Q.out (by simp only [Rc.con, Prod.mk.injEq, List.cons.injEq] at h; simp only [h]))), H2.weaken le⟩
  have u3 : (epoch == epoch') = true := by simpa using q
  have Q3 := Hid.mk' q
  clear q
  by_cases q : mark = mark'
  case neg =>
    have u : (mark == mark') = false := by simpa using q
    have Q := Hid.mk' q
    clear q
    go_enter Try.func80, Try.ntmps80
    go_wp2_with fail
    go_ret
    exact ⟨ret_bool (NO.out (fun h => Q.out (by simp only [Rc.con, Prod.mk.injEq, List.cons.injEq] at h; simp only [h]))), H2.weaken le⟩
  have u4 : (mark == mark') = true := by simpa using q
  have Q4 := Hid.mk' q
  clear q
  by_cases q : size = size'
  case neg =>
    have u : (size == size') = false := by simpa using q
    have Q := Hid.mk' q
    clear q
    go_enter Try.func80, Try.ntmps80
    go_wp2_with fail
    go_ret
    exact ⟨ret_bool (NO.out (fun h => Q.out (by simp only [Rc.con, Prod.mk.injEq, List.cons.injEq] at h; simp only [h]))), H2.weaken le⟩
  have u5 : (size == size') = true := by simpa using q
  have Q5 := Hid.mk' q
  clear q
  go_enter Try.func80, Try.ntmps80
  go_wp2_with fail
  refine (same_spec (Rd.world HS.out H2) (Rd.world HS'.out H2) Z2.out Z4.out).mono ?_
  rintro e w8 ⟨rfl, q, rfl⟩
  have H3 := H2.drewN q
  go_wp2_with fail
  go_ret
  refine ⟨ret_bool ?_, (H3).weaken le⟩
  rw [HY.out, rcSame]
  congr 1
  simp only [Rc.con, Q0.out, Q1.out, Q2.out, Q3.out, Q4.out, Q5.out, Prod.mk.injEq, true_and]
end Sh
