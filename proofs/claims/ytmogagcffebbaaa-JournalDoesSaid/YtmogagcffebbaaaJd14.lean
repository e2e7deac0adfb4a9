/- MsgSame RecSame RecRef RecLaw RecAlive: joined texts, each with its own sentence below. -/
import Derived.Test.YtmogagcffebbaaaJd4
import Derived.Test.YtmogagcffebbaaaJd10
import Derived.Test.YtmogagcffebbaaaJd13
/- sherdref08.SameInts, sherdref07.Same, Far; sherdref25.Same, SameAll, Far. -/
set_option linter.unusedVariables false
set_option linter.unusedSimpArgs false
namespace Sh
open Go Go.RowKit Go.Proofs
attribute [local go_sem ↓] Go.wp_at_zero Go.wp_at_succ
set_option maxHeartbeats 1000000
set_option maxRecDepth 100000

theorem take_snoc_any {α : Type} {l k : List α} {j : Nat} (hl : j < l.length) (hk : j < k.length) (h : l.take j = k.take j) (e : l[j] = k[j]) : l.take (j + 1) = k.take (j + 1) := by
  rw [List.take_succ_eq_append_getElem hl, List.take_succ_eq_append_getElem hk, h, e]
theorem strEq (x y : ByteArray) : (x.toList == y.toList) = decide (x = y) := by
  rw [ByteArray.toList_eq, ByteArray.toList_eq, Bool.eq_iff_iff, beq_iff_eq, decide_eq_true_eq]
  constructor
  · intro h
    obtain ⟨⟨a⟩⟩ := x
    obtain ⟨⟨b⟩⟩ := y
    simp only at h
    rw [h]
  · rintro rfl; rfl
theorem sameInts_spec {w : World} {R : Snap} {L : Asrt} {u v : Value} {l k : List Int} (H : Holds w R L) (hu : ∀ w', Holds w' R L → RdI w'.cell? u l) (hv : ∀ w', Holds w' R L → RdI w'.cell? v k) (hl : l.length ≤ 1000000) (hk : k.length ≤ 1000000) :
    Calls Try.prog 113 #[u, v] w fun e w' => e = .returned (.bool (decide (l = k))) ∧ Holds w' R L := by
  obtain ⟨a, ca, rfl⟩ := (hu w H).form
  obtain ⟨b, cb, rfl⟩ := (hv w H).form
  by_cases hlen : l.length = k.length
  · obtain ⟨n, hn⟩ : ∃ n, n = k.length := ⟨_, rfl⟩
    have HL : Hid (l.length = n) := Hid.mk' (by omega)
    have HK : Hid (k.length = n) := Hid.mk' hn.symm
    have HU := Hid.mk' hu
    have HV := Hid.mk' hv
    rw [hlen, ← hn]
    have hn9 : n ≤ 1000000 := by omega
    clear hlen hn hu hv
    go_enter Try.func113, Try.ntmps113
    go_wp2_with fail
    go_loopw [5] (fun i wr => ∃ j : Nat, i = .int .i64 j ∧ j ≤ n ∧ Hid (l.take j = k.take j) ∧ Holds wr R L) (fun i _ => n - (intOf i).toNat)
    case atStart => exact ⟨0, rfl, Nat.zero_le _, rfl, H⟩
    case round =>
      clear H
      obtain ⟨j, rfl, hj, ht, H1⟩ := hrel
      by_cases hlt : j < n
      · have hjl : j < l.length := by have := HL.out; omega
        have hjk : j < k.length := by have := HK.out; omega
        have hu1 := HU.out _ H1
        have hv1 := HV.out _ H1
        obtain ⟨b1, o1, ha, c1⟩ := rdI_at hu1 hjl
        subst ha
        obtain ⟨b2, o2, ha, c2⟩ := rdI_at hv1 hjk
        subst ha
        obtain ⟨x, hx⟩ : ∃ x, x = l[j] := ⟨_, rfl⟩
        obtain ⟨y, hy⟩ : ∃ y, y = k[j] := ⟨_, rfl⟩
        rw [← hx] at c1
        rw [← hy] at c2
        have HXY := Hid.mk' (And.intro hx hy)
        clear hx hy hu1 hv1
        cases hxy : x != y with
        | true =>
          go_wp2_with fail
          go_quiet (fail)
          go_wp2_with fail
          go_ret
          refine ⟨ret_bool ?_, H1.drewN _⟩
          symm; rw [decide_eq_false_iff_not]
          intro e
          have h1 := HXY.out.1
          have h2 := HXY.out.2
          subst e
          rw [h1, h2] at hxy
          simp at hxy
        | false =>
          go_wp2_with fail
          go_quiet (fail)
          go_wp2_with fail
          go_roundw
          case rel =>
            refine ⟨j + 1, by go_num, hlt, Hid.mk' ?_, H1.drewN _⟩
            have e : x = y := by simpa using hxy
            exact take_snoc_any hjl hjk ht.out (by rw [← HXY.out.1, ← HXY.out.2, e])
          case measure => simp [intOf]; omega
      · go_wp2_with fail
        go_ret
        refine ⟨ret_bool ?_, H1⟩
        symm; rw [decide_eq_true_eq]
        have h1 := ht.out
        have h2 := HL.out
        have h3 := HK.out
        rwa [List.take_of_length_le (by omega), List.take_of_length_le (by omega)] at h1
  · have h1 : ((l.length : Int) != (k.length : Int)) = true := by simp; omega
    go_enter Try.func113, Try.ntmps113
    go_wp2_with fail
    go_ret
    exact ⟨ret_bool (by symm; rw [decide_eq_false_iff_not]; rintro rfl; exact hlen rfl), H⟩
theorem sameStrs_spec {w : World} {R : Snap} {L : Asrt} {u v : Value} {l k : List ByteArray} (H : Holds w R L) (hu : ∀ w', Holds w' R L → RdS w'.cell? u l) (hv : ∀ w', Holds w' R L → RdS w'.cell? v k) (hl : l.length ≤ 1000000) (hk : k.length ≤ 1000000) :
    Calls Try.prog 114 #[u, v] w fun e w' => e = .returned (.bool (decide (l = k))) ∧ Holds w' R L := by
  obtain ⟨a, ca, rfl⟩ := (hu w H).form
  obtain ⟨b, cb, rfl⟩ := (hv w H).form
  by_cases hlen : l.length = k.length
  · obtain ⟨n, hn⟩ : ∃ n, n = k.length := ⟨_, rfl⟩
    have HL : Hid (l.length = n) := Hid.mk' (by omega)
    have HK : Hid (k.length = n) := Hid.mk' hn.symm
    have HU := Hid.mk' hu
    have HV := Hid.mk' hv
    rw [hlen, ← hn]
    have hn9 : n ≤ 1000000 := by omega
    clear hlen hn hu hv
    go_enter Try.func114, Try.ntmps114
    go_wp2_with fail
    go_loopw [5] (fun i wr => ∃ j : Nat, i = .int .i64 j ∧ j ≤ n ∧ Hid (l.take j = k.take j) ∧ Holds wr R L) (fun i _ => n - (intOf i).toNat)
    case atStart => exact ⟨0, rfl, Nat.zero_le _, rfl, H⟩
    case round =>
      clear H
      obtain ⟨j, rfl, hj, ht, H1⟩ := hrel
      by_cases hlt : j < n
      · have hjl : j < l.length := by have := HL.out; omega
        have hjk : j < k.length := by have := HK.out; omega
        have hu1 := HU.out _ H1
        have hv1 := HV.out _ H1
        obtain ⟨b1, o1, ha, c1⟩ := rdS_at hu1 hjl
        subst ha
        obtain ⟨b2, o2, ha, c2⟩ := rdS_at hv1 hjk
        subst ha
        obtain ⟨x, hx⟩ : ∃ x, x = l[j] := ⟨_, rfl⟩
        obtain ⟨y, hy⟩ : ∃ y, y = k[j] := ⟨_, rfl⟩
        rw [← hx] at c1
        rw [← hy] at c2
        have HXY := Hid.mk' (And.intro hx hy)
        clear hx hy hu1 hv1
        go_wp2_with fail
        go_quiet (fail)
        go_wp2_with fail
        · rename_i hxy
          go_ret
          refine ⟨ret_bool ?_, H1.drewN _⟩
          symm; rw [decide_eq_false_iff_not]
          intro e
          have h1 := HXY.out.1
          have h2 := HXY.out.2
          have h3 : x = y := by rw [h1, h2]; subst e; rfl
          rw [strEq, h3] at hxy
          simp at hxy
        · rename_i hxy
          go_roundw
          case rel =>
            refine ⟨j + 1, by go_num, hlt, Hid.mk' ?_, H1.drewN _⟩
            rw [strEq] at hxy
            have e : x = y := by simpa using hxy
            exact take_snoc_any hjl hjk ht.out (by rw [← HXY.out.1, ← HXY.out.2, e])
          case measure => simp [intOf]; omega
      · go_wp2_with fail
        go_ret
        refine ⟨ret_bool ?_, H1⟩
        symm; rw [decide_eq_true_eq]
        have h1 := ht.out
        have h2 := HL.out
        have h3 := HK.out
        rwa [List.take_of_length_le (by omega), List.take_of_length_le (by omega)] at h1
  · have h1 : ((l.length : Int) != (k.length : Int)) = true := by simp; omega
    go_enter Try.func114, Try.ntmps114
    go_wp2_with fail
    go_ret
    exact ⟨ret_bool (by symm; rw [decide_eq_false_iff_not]; rintro rfl; exact hlen rfl), H⟩
/-- Two messages' numbers, name and lists are the same. -/
def Ms.nums (m : Ms) : List Int := [m.kind, m.from_, m.to_, m.ballot, m.attempt, m.epoch, m.mark, m.size, m.what]
def msSame (m x : Ms) : Bool := decide (m.nums = x.nums) && decide (m.name = x.name) && decide (m.who = x.who) && decide (m.names = x.names) && decide (m.data = x.data)
theorem msSame_no1 {m x : Ms} (h : ¬ m.nums = x.nums) : false = msSame m x := by simp [msSame, h]
theorem msSame_yes {m x : Ms} (h1 : m.nums = x.nums) (h2 : m.name = x.name) (h3 : m.who = x.who) (h4 : m.names = x.names) {l k : List UInt8} (hl : l = m.data) (hk : k = x.data) : decide (l = k) = msSame m x := by subst hl hk; simp [msSame, h1, h2, h3, h4]
theorem same25_spec {w : World} {R : Snap} {L : Asrt} (m x : Ms) (H : Holds w R L) (hm : m.Rd R.cell?) (hz : m.Sz) (hx : x.Rd R.cell?) (hzx : x.Sz) :
    Calls Try.prog 41 #[.agg m.cells.toArray, .agg x.cells.toArray] w fun e w' => e = .returned (.bool (msSame m x)) ∧ Holds w' R L := by
  obtain ⟨y, hy⟩ : ∃ y, y = msSame m x := ⟨_, rfl⟩
  rw [← hy]
  obtain ⟨kind, from_, to_, ballot, name, attempt, epoch, mark, size, what, vw, vn, vd, who, names, data⟩ := m
  obtain ⟨kind', from', to', ballot', name', attempt', epoch', mark', size', what', vw', vn', vd', who', names', data'⟩ := x
  obtain ⟨hw, hn, hd⟩ := hm
  obtain ⟨hw', hn', hd'⟩ := hx
  obtain ⟨z1, z2, z3, z4, z5⟩ := hz
  obtain ⟨y1, y2, y3, y4, y5⟩ := hzx
  simp only at z1 z2 z3 z4 z5 y1 y2 y3 y4 y5 hw hn hd hw' hn' hd'
  obtain ⟨aw, cw, rfl⟩ := hw.form
  obtain ⟨an, cn, rfl⟩ := hn.form
  obtain ⟨ad, cd, rfl⟩ := hd.form
  obtain ⟨aw', cw', rfl⟩ := hw'.form
  obtain ⟨an', cn', rfl⟩ := hn'.form
  obtain ⟨ad', cd', rfl⟩ := hd'.form
  obtain ⟨R1, le1, H1, hb⟩ := H.allocR (.cells #[.int .i64 kind, .int .i64 from_, .int .i64 to_, .int .i64 ballot, .string name, .int .i64 attempt, .int .i64 epoch, .int .i64 mark, .int .i64 size, .int .i64 what, .slice aw who.length cw, .slice an names.length cn, .slice ad data.length cd] tMsg (0, 0))
  obtain ⟨R2, le2, H2, hb2⟩ := H1.allocR (.cells #[.int .i64 kind', .int .i64 from', .int .i64 to', .int .i64 ballot', .string name', .int .i64 attempt', .int .i64 epoch', .int .i64 mark', .int .i64 size', .int .i64 what', .slice aw' who'.length cw', .slice an' names'.length cn', .slice ad' data'.length cd'] tMsg (0, 0))
  simp only [World.size_alloc] at hb2
  have hb1 := le2.blk _ _ hb
  have le := le1.trans le2
  have HY := Hid.mk' hy
  have HW := Hid.mk' (Rd.le hw le)
  have HN := Hid.mk' (Rd.le hn le)
  have HD := Hid.mk' (Rd.le hd le)
  have HW' := Hid.mk' (Rd.le hw' le)
  have HN' := Hid.mk' (Rd.le hn' le)
  have HD' := Hid.mk' (Rd.le hd' le)
  have H3 := (H2.alloc #[.int .i64 kind, .int .i64 from_, .int .i64 to_, .int .i64 ballot, .int .i64 attempt, .int .i64 epoch, .int .i64 mark, .int .i64 size, .int .i64 what] tInt).alloc #[.int .i64 kind', .int .i64 from', .int .i64 to', .int .i64 ballot', .int .i64 attempt', .int .i64 epoch', .int .i64 mark', .int .i64 size', .int .i64 what'] tInt
  simp only [World.size_alloc] at H3
  show Calls _ _ #[.agg #[.int .i64 kind, .int .i64 from_, .int .i64 to_, .int .i64 ballot, .string name, .int .i64 attempt, .int .i64 epoch, .int .i64 mark, .int .i64 size, .int .i64 what, .slice aw who.length cw, .slice an names.length cn, .slice ad data.length cd], .agg #[.int .i64 kind', .int .i64 from', .int .i64 to', .int .i64 ballot', .string name', .int .i64 attempt', .int .i64 epoch', .int .i64 mark', .int .i64 size', .int .i64 what', .slice aw' who'.length cw', .slice an' names'.length cn', .slice ad' data'.length cd']] _ _
  clear hw hn hd hw' hn' hd' hy hb H H1
  go_enter Try.func41, Try.ntmps41
  go_wp2_with fail
  generalize hg : w.heap.size = g at *
  clear hg
  refine (sameInts_spec (l := [kind, from_, to_, ballot, attempt, epoch, mark, size, what]) (k := [kind', from', to', ballot', attempt', epoch', mark', size', what']) H3 (fun w' h => (h.drop.toRow 1 9 9 (Nat.le_refl _) (by decide) rfl).rowRd) (fun w' h => (h.toRow 1 9 9 (Nat.le_refl _) (by decide) rfl).rowRd) (by simp) (by simp)).mono ?_
  rintro e w4 ⟨rfl, H4⟩
  replace H4 := H4.drop.drop
  clear H3 H2
  obtain ⟨l4, n4, c4⟩ := Holds.frzFacts (H4) hb1
  obtain ⟨l5, n5, c5⟩ := Holds.frzFacts (H4) hb2
  by_cases q1 : [kind, from_, to_, ballot, attempt, epoch, mark, size, what] = [kind', from', to', ballot', attempt', epoch', mark', size', what']
  case neg =>
    rw [decide_eq_false q1]
    have Q1 := Hid.mk' q1
    clear q1
    go_wp2_with fail
    go_ret
    exact ⟨ret_bool (by rw [HY.out]; exact msSame_no1 Q1.out), H4.weaken le⟩
  rw [decide_eq_true q1]
  have Q1 := Hid.mk' q1
  clear q1
  have es := strEq name name'
  by_cases q2 : name = name'
  case neg =>
    rw [decide_eq_false q2] at es
    have Q2 := Hid.mk' q2
    clear q2
    go_wp2_with fail
    go_ret
    exact ⟨ret_bool (by rw [HY.out, msSame]; simp only [decide_eq_false Q2.out, Bool.false_and, Bool.and_false]), H4.weaken le⟩
  rw [decide_eq_true q2] at es
  have Q2 := Hid.mk' q2
  clear q2
  go_wp2_with fail
  refine (sameInts_spec H4 (fun w' h => Rd.world HW.out h) (fun w' h => Rd.world HW'.out h) z3 y3).mono ?_
  rintro e w6 ⟨rfl, H6⟩
  clear H4 l4 n4 c4 l5 n5 c5
  obtain ⟨l4, n4, c4⟩ := Holds.frzFacts (H6) hb1
  obtain ⟨l5, n5, c5⟩ := Holds.frzFacts (H6) hb2
  by_cases q3 : who = who'
  case neg =>
    rw [decide_eq_false q3]
    have Q3 := Hid.mk' q3
    clear q3
    go_wp2_with fail
    go_ret
    exact ⟨ret_bool (by rw [HY.out, msSame]; simp only [decide_eq_false Q3.out, Bool.false_and, Bool.and_false]), H6.weaken le⟩
  rw [decide_eq_true q3]
  have Q3 := Hid.mk' q3
  clear q3
  go_wp2_with fail
  refine (sameStrs_spec H6 (fun w' h => Rd.world HN.out h) (fun w' h => Rd.world HN'.out h) z4 y4).mono ?_
  rintro e w7 ⟨rfl, H7⟩
  clear H6 l4 n4 c4 l5 n5 c5
  obtain ⟨l4, n4, c4⟩ := Holds.frzFacts (H7) hb1
  obtain ⟨l5, n5, c5⟩ := Holds.frzFacts (H7) hb2
  by_cases q4 : names = names'
  case neg =>
    rw [decide_eq_false q4]
    have Q4 := Hid.mk' q4
    clear q4
    go_wp2_with fail
    go_ret
    exact ⟨ret_bool (by rw [HY.out, msSame]; simp only [decide_eq_false Q4.out, Bool.false_and, Bool.and_false]), H7.weaken le⟩
  rw [decide_eq_true q4]
  have Q4 := Hid.mk' q4
  clear q4
  go_wp2_with fail
  refine (same_spec (Rd.world HD.out H7) (Rd.world HD'.out H7) z5 y5).mono ?_
  rintro e w8 ⟨rfl, q, rfl⟩
  go_wp2_with fail
  go_ret
  exact ⟨ret_bool (by rw [HY.out]; refine msSame_yes ?_ ?_ ?_ ?_ ?_ ?_; exact Q1.out; exact Q2.out; exact Q3.out; exact Q4.out; rfl; rfl), (H7.drewN q).weaken le⟩
end Sh
/- Are two records the same? Both. -/
set_option linter.unusedVariables false
set_option linter.unusedSimpArgs false
namespace Sh
open Go Go.RowKit Go.Proofs
attribute [local go_sem ↓] Go.wp_at_zero Go.wp_at_succ
set_option maxHeartbeats 1000000
set_option maxRecDepth 100000

def rcSame (m x : Rc) : Bool := decide (m.con = x.con)
theorem rcSame_yes {m x : Rc} (h : m.con = x.con) : rcSame m x = true := decide_eq_true h
theorem rcSame_of {m x : Rc} (h : rcSame m x = true) : m.con = x.con := of_decide_eq_true h
set_option maxHeartbeats 8000000
theorem recSame_spec {w : World} {R : Snap} {L : Asrt} (m x : Rc) (H : Holds w R L) (hm : m.Rd R.cell?) (hz : m.Sz) (hx : x.Rd R.cell?) (hzx : x.Sz) :
    Calls Try.prog 79 #[.agg m.cells.toArray, .agg x.cells.toArray] w fun e w' => e = .returned (.bool (rcSame m x)) ∧ Holds w' R L := by
  obtain ⟨y, hy⟩ : ∃ y, y = rcSame m x := ⟨_, rfl⟩
  rw [← hy]
  obtain ⟨kind, name, attempt, epoch, mark, size, vs, share⟩ := m
  obtain ⟨z1, z2⟩ := hz
  have hs := hm
  simp only [Rc.Rd] at z1 z2 hs
  obtain ⟨as_, cs_, rfl⟩ := hs.form
  obtain ⟨kind', name', attempt', epoch', mark', size', vs', share'⟩ := x
  obtain ⟨z3, z4⟩ := hzx
  have hs' := hx
  simp only [Rc.Rd] at z3 z4 hs'
  obtain ⟨as', cs', rfl⟩ := hs'.form
  obtain ⟨R1, le1, H1, hb⟩ := H.allocR (.cells #[.int .i64 kind, .string name, .int .i64 attempt, .int .i64 epoch, .int .i64 mark, .int .i64 size, .slice as_ share.length cs_] tRec (0, 0))
  obtain ⟨R2, le2, H2, hb2⟩ := H1.allocR (.cells #[.int .i64 kind', .string name', .int .i64 attempt', .int .i64 epoch', .int .i64 mark', .int .i64 size', .slice as' share'.length cs'] tRec (0, 0))
  simp only [World.size_alloc] at hb2
  have hb1 := le2.blk _ _ hb
  have le := le1.trans le2
  have HY := Hid.mk' hy
  have HS := Hid.mk' (Sh.Rd.le hs le)
  have HS' := Hid.mk' (Sh.Rd.le hs' le)
  have Z2 := Hid.mk' z2
  have Z4 := Hid.mk' z4
  obtain ⟨l4, n4, c4⟩ := Holds.frzFacts (H2) hb1
  obtain ⟨l5, n5, c5⟩ := Holds.frzFacts (H2) hb2
  show Calls _ _ #[.agg #[.int .i64 kind, .string name, .int .i64 attempt, .int .i64 epoch, .int .i64 mark, .int .i64 size, .slice as_ share.length cs_], .agg #[.int .i64 kind', .string name', .int .i64 attempt', .int .i64 epoch', .int .i64 mark', .int .i64 size', .slice as' share'.length cs']] _ _
  have NO : Hid (((⟨kind, name, attempt, epoch, mark, size, .slice as_ share.length cs_, share⟩ : Rc)).con ≠ ((⟨kind', name', attempt', epoch', mark', size', .slice as' share'.length cs', share'⟩ : Rc)).con → false = y) := Hid.mk' (fun h => by rw [HY.out]; exact (decide_eq_false h).symm)
  have es := strEq name name'
  clear hs hs' hy hb H H1 z1 z2 z3 z4 hm hx
  by_cases q : kind = kind'
  case neg =>
    have u : (kind == kind') = false := by simpa using q
    have Q := Hid.mk' q
    clear q
    go_enter Try.func79, Try.ntmps79
    go_wp2_with fail
    go_ret
    exact ⟨ret_bool (NO.out (fun h => Q.out (by simp only [Rc.con, Prod.mk.injEq, List.cons.injEq] at h; simp only [h]))), H2.weaken le⟩
  have u0 : (kind == kind') = true := by simpa using q
  have Q0 := Hid.mk' q
  clear q
  by_cases q : name = name'
  case neg =>
    rw [decide_eq_false q] at es
    have Q := Hid.mk' q
    clear q
    go_enter Try.func79, Try.ntmps79
    go_wp2_with fail
    go_ret
    exact ⟨ret_bool (NO.out (fun h => Q.out (by simp only [Rc.con, Prod.mk.injEq, List.cons.injEq] at h; simp only [h]))), H2.weaken le⟩
  rw [decide_eq_true q] at es
  have Q1 := Hid.mk' q
  clear q
  by_cases q : attempt = attempt'
  case neg =>
    have u : (attempt == attempt') = false := by simpa using q
    have Q := Hid.mk' q
    clear q
    go_enter Try.func79, Try.ntmps79
    go_wp2_with fail
    go_ret
    exact ⟨ret_bool (NO.out (fun h => Q.out (by simp only [Rc.con, Prod.mk.injEq, List.cons.injEq] at h; simp only [h]))), H2.weaken le⟩
  have u2 : (attempt == attempt') = true := by simpa using q
  have Q2 := Hid.mk' q
  clear q
  by_cases q : epoch = epoch'
  case neg =>
    have u : (epoch == epoch') = false := by simpa using q
    have Q := Hid.mk' q
    clear q
    go_enter Try.func79, Try.ntmps79
    go_wp2_with fail
    go_ret
    exact ⟨ret_bool (NO.out (fun h => Q.out (by simp only [Rc.con, Prod.mk.injEq, List.cons.injEq] at h; simp only [h]))), H2.weaken le⟩
  have u3 : (epoch == epoch') = true := by simpa using q
  have Q3 := Hid.mk' q
  clear q
  by_cases q : mark = mark'
  case neg =>
    have u : (mark == mark') = false := by simpa using q
    have Q := Hid.mk' q
    clear q
    go_enter Try.func79, Try.ntmps79
    go_wp2_with fail
    go_ret
    exact ⟨ret_bool (NO.out (fun h => Q.out (by simp only [Rc.con, Prod.mk.injEq, List.cons.injEq] at h; simp only [h]))), H2.weaken le⟩
  have u4 : (mark == mark') = true := by simpa using q
  have Q4 := Hid.mk' q
  clear q
  by_cases q : size = size'
  case neg =>
    have u : (size == size') = false := by simpa using q
    have Q := Hid.mk' q
    clear q
    go_enter Try.func79, Try.ntmps79
    go_wp2_with fail
    go_ret
    exact ⟨ret_bool (NO.out (fun h => Q.out (by simp only [Rc.con, Prod.mk.injEq, List.cons.injEq] at h; simp only [h]))), H2.weaken le⟩
  have u5 : (size == size') = true := by simpa using q
  have Q5 := Hid.mk' q
  clear q
  go_enter Try.func79, Try.ntmps79
  go_wp2_with fail
  refine (bytesEqual_spec (Rd.world HS.out H2) (Rd.world HS'.out H2)).mono ?_
  rintro e w8 ⟨rfl, rfl⟩
  have H3 := H2
  go_wp2_with fail
  go_ret
  refine ⟨ret_bool ?_, (H3).weaken le⟩
  rw [HY.out, rcSame]
  congr 1
  simp only [Rc.con, Q0.out, Q1.out, Q2.out, Q3.out, Q4.out, Q5.out, Prod.mk.injEq, true_and]
theorem rrecSame_spec {w : World} {R : Snap} {L : Asrt} (m x : Rc) (H : Holds w R L) (hm : m.Rd R.cell?) (hz : m.Sz) (hx : x.Rd R.cell?) (hzx : x.Sz) :
    Calls Try.prog 80 #[.agg m.cells.toArray, .agg x.cells.toArray] w fun e w' => e = .returned (.bool (rcSame m x)) ∧ Holds w' R L := by
  obtain ⟨y, hy⟩ : ∃ y, y = rcSame m x := ⟨_, rfl⟩
  rw [← hy]
  obtain ⟨kind, name, attempt, epoch, mark, size, vs, share⟩ := m
  obtain ⟨z1, z2⟩ := hz
  have hs := hm
  simp only [Rc.Rd] at z1 z2 hs
  obtain ⟨as_, cs_, rfl⟩ := hs.form
  obtain ⟨kind', name', attempt', epoch', mark', size', vs', share'⟩ := x
  obtain ⟨z3, z4⟩ := hzx
  have hs' := hx
  simp only [Rc.Rd] at z3 z4 hs'
  obtain ⟨as', cs', rfl⟩ := hs'.form
  obtain ⟨R1, le1, H1, hb⟩ := H.allocR (.cells #[.int .i64 kind, .string name, .int .i64 attempt, .int .i64 epoch, .int .i64 mark, .int .i64 size, .slice as_ share.length cs_] tRec (0, 0))
  obtain ⟨R2, le2, H2, hb2⟩ := H1.allocR (.cells #[.int .i64 kind', .string name', .int .i64 attempt', .int .i64 epoch', .int .i64 mark', .int .i64 size', .slice as' share'.length cs'] tRec (0, 0))
  simp only [World.size_alloc] at hb2
  have hb1 := le2.blk _ _ hb
  have le := le1.trans le2
  have HY := Hid.mk' hy
  have HS := Hid.mk' (Sh.Rd.le hs le)
  have HS' := Hid.mk' (Sh.Rd.le hs' le)
  have Z2 := Hid.mk' z2
  have Z4 := Hid.mk' z4
  obtain ⟨l4, n4, c4⟩ := Holds.frzFacts (H2) hb1
  obtain ⟨l5, n5, c5⟩ := Holds.frzFacts (H2) hb2
  show Calls _ _ #[.agg #[.int .i64 kind, .string name, .int .i64 attempt, .int .i64 epoch, .int .i64 mark, .int .i64 size, .slice as_ share.length cs_], .agg #[.int .i64 kind', .string name', .int .i64 attempt', .int .i64 epoch', .int .i64 mark', .int .i64 size', .slice as' share'.length cs']] _ _
  have NO : Hid (((⟨kind, name, attempt, epoch, mark, size, .slice as_ share.length cs_, share⟩ : Rc)).con ≠ ((⟨kind', name', attempt', epoch', mark', size', .slice as' share'.length cs', share'⟩ : Rc)).con → false = y) := Hid.mk' (fun h => by rw [HY.out]; exact (decide_eq_false h).symm)
  have es := strEq name name'
  clear hs hs' hy hb H H1 z1 z2 z3 z4 hm hx
  by_cases q : kind = kind'
  case neg =>
    have u : (kind == kind') = false := by simpa using q
    have Q := Hid.mk' q
    clear q
    go_enter Try.func80, Try.ntmps80
    go_wp2_with fail
    go_ret
    exact ⟨ret_bool (NO.out (fun h => Q.out (by simp only [Rc.con, Prod.mk.injEq, List.cons.injEq] at h; simp only [h]))), H2.weaken le⟩
  have u0 : (kind == kind') = true := by simpa using q
  have Q0 := Hid.mk' q
  clear q
  by_cases q : name = name'
  case neg =>
    rw [decide_eq_false q] at es
    have Q := Hid.mk' q
    clear q
    go_enter Try.func80, Try.ntmps80
    go_wp2_with fail
    go_ret
    exact ⟨ret_bool (NO.out (fun h => Q.out (by simp only [Rc.con, Prod.mk.injEq, List.cons.injEq] at h; simp only [h]))), H2.weaken le⟩
  rw [decide_eq_true q] at es
  have Q1 := Hid.mk' q
  clear q
  by_cases q : attempt = attempt'
  case neg =>
    have u : (attempt == attempt') = false := by simpa using q
    have Q := Hid.mk' q
    clear q
    go_enter Try.func80, Try.ntmps80
    go_wp2_with fail
    go_ret
    exact ⟨ret_bool (NO.out (fun h => Q.out (by simp only [Rc.con, Prod.mk.injEq, List.cons.injEq] at h; simp only [h]))), H2.weaken le⟩
  have u2 : (attempt == attempt') = true := by simpa using q
  have Q2 := Hid.mk' q
  clear q
  by_cases q : epoch = epoch'
  case neg =>
    have u : (epoch == epoch') = false := by simpa using q
    have Q := Hid.mk' q
    clear q
    go_enter Try.func80, Try.ntmps80
    go_wp2_with fail
    go_ret
    exact ⟨ret_bool (NO.out (fun h => Q.out (by simp only [Rc.con, Prod.mk.injEq, List.cons.injEq] at h; simp only [h]))), H2.weaken le⟩
  have u3 : (epoch == epoch') = true := by simpa using q
  have Q3 := Hid.mk' q
  clear q
  by_cases q : mark = mark'
  case neg =>
    have u : (mark == mark') = false := by simpa using q
    have Q := Hid.mk' q
    clear q
    go_enter Try.func80, Try.ntmps80
    go_wp2_with fail
    go_ret
    exact ⟨ret_bool (NO.out (fun h => Q.out (by simp only [Rc.con, Prod.mk.injEq, List.cons.injEq] at h; simp only [h]))), H2.weaken le⟩
  have u4 : (mark == mark') = true := by simpa using q
  have Q4 := Hid.mk' q
  clear q
  by_cases q : size = size'
  case neg =>
    have u : (size == size') = false := by simpa using q
    have Q := Hid.mk' q
    clear q
    go_enter Try.func80, Try.ntmps80
    go_wp2_with fail
    go_ret
    exact ⟨ret_bool (NO.out (fun h => Q.out (by simp only [Rc.con, Prod.mk.injEq, List.cons.injEq] at h; simp only [h]))), H2.weaken le⟩
  have u5 : (size == size') = true := by simpa using q
  have Q5 := Hid.mk' q
  clear q
  go_enter Try.func80, Try.ntmps80
  go_wp2_with fail
  refine (same_spec (Rd.world HS.out H2) (Rd.world HS'.out H2) Z2.out Z4.out).mono ?_
  rintro e w8 ⟨rfl, q, rfl⟩
  have H3 := H2.drewN q
  go_wp2_with fail
  go_ret
  refine ⟨ret_bool ?_, (H3).weaken le⟩
  rw [HY.out, rcSame]
  congr 1
  simp only [Rc.con, Q0.out, Q1.out, Q2.out, Q3.out, Q4.out, Q5.out, Prod.mk.injEq, true_and]
end Sh
/- sherdref20.Right, Count, Far; Same of both. -/
set_option linter.unusedVariables false
set_option linter.unusedSimpArgs false
namespace Sh
open Go Go.RowKit Go.Proofs
attribute [local go_sem ↓] Go.wp_at_zero Go.wp_at_succ
set_option maxHeartbeats 1000000
set_option maxRecDepth 100000

theorem rrecRight_spec {w : World} {R : Snap} {L : Asrt} (r : Rc) (H : Holds w R L) (hr : r.Rd R.cell?) (hz : r.Sz) :
    Calls Try.prog 75 #[.agg r.cells.toArray] w fun e w' => e = .returned (.bool (rcOk r)) ∧ Holds w' R L := by
  obtain ⟨x, hx⟩ : ∃ x, x = rcOk r := ⟨_, rfl⟩
  rw [← hx]
  obtain ⟨kind, name, attempt, epoch, mark, size, vs, share⟩ := r
  obtain ⟨z1, z2⟩ := hz
  have hs := hr
  simp only [Rc.Rd] at z1 z2 hs
  obtain ⟨as_, cs_, rfl⟩ := hs.form
  have HX := Hid.mk' hx
  have hR := rright_spec z1
  obtain ⟨n, hn⟩ : ∃ n, n = share.length := ⟨_, rfl⟩
  have HN := Hid.mk' hn
  obtain ⟨R1, le1, H1, hb⟩ := H.allocR (.cells #[.int .i64 kind, .string name, .int .i64 attempt, .int .i64 epoch, .int .i64 mark, .int .i64 size, .slice as_ share.length cs_] tRec (0, 0))
  obtain ⟨R2, le2, H2, hb2⟩ := H1.allocR (.cells #[.int .i64 attempt, .int .i64 epoch, .int .i64 mark] tInt (0, 0))
  replace hb := le2.blk _ _ hb
  simp only [← hn] at hb H1 H2 hb2
  show Calls _ _ #[.agg #[.int .i64 kind, .string name, .int .i64 attempt, .int .i64 epoch, .int .i64 mark, .int .i64 size, .slice as_ share.length cs_]] _ _
  simp only [← hn]
  have z3 : n ≤ 1000000 := by omega
  have le3 := le1.trans le2
  simp only [World.size_alloc] at hb2
  clear hs hx H hn hr le1 le2 H1 z1 z2
  go_enter Try.func75, Try.ntmps75
  go_wp2_with fail
  generalize (World.alloc ..) = w2 at H2 ⊢
  generalize (w.heap.size + 1) = g2 at hb2 ⊢
  generalize w.heap.size = g1 at hb ⊢
  obtain ⟨v, hv⟩ : ∃ v : Nat → Int, v = fun k => [attempt, epoch, mark].getD k 0 := ⟨_, rfl⟩
  have HV := Hid.mk' hv
  clear hv
  go_loopw [4] (fun i wx => ∃ j : Nat, i = .int .i64 j ∧ j ≤ 3 ∧ Hid (∀ k, k < j → inOne 4294967295 (v k) = true) ∧ Holds wx R2 L) (fun i _ => 3 - (intOf i).toNat)
  case atStart => exact ⟨0, rfl, Nat.zero_le _, Hid.mk' (fun k h => absurd h (Nat.not_lt_zero k)), H2⟩
  case round =>
    clear H2
    obtain ⟨j, rfl, hj, hA, H3⟩ := hrel
    by_cases hlt : j < 3
    · have d1 : decide ((j : Int) < 3) = true := by simp; omega
      obtain ⟨y, hy⟩ : ∃ y, y = v j := ⟨_, rfl⟩
      have HY := Hid.mk' hy
      have hc : wr.cell? ⟨g2, j, none⟩ = some (.int .i64 y) := by
        rw [H3.frz hb2 j, hy, HV.out]
        rcases (show j = 0 ∨ j = 1 ∨ j = 2 by omega) with rfl | rfl | rfl <;> rfl
      obtain ⟨l2, n2, c2⟩ := Holds.frzFacts (H3) hb2
      clear hy c2
      have i1 : (0 : Int) ≤ (j : Int) := by omega
      have i2 : (j : Int) < 3 := by omega
      have bad : inOne 4294967295 y = false → x = false := fun h => by
        rw [HX.out]
        have h2 := HY.out
        rw [HV.out] at h2
        have e : inAll 4294967295 [attempt, epoch, mark] = false := by
          rcases (show j = 0 ∨ j = 1 ∨ j = 2 by omega) with rfl | rfl | rfl
          · have h3 : y = attempt := h2
            rw [h3] at h; simp [inAll, h]
          · have h3 : y = epoch := h2
            rw [h3] at h; simp [inAll, h]
          · have h3 : y = mark := h2
            rw [h3] at h; simp [inAll, h]
        simp [rcOk, e]
      have BAD := Hid.mk' bad
      clear bad
      by_cases y0 : y < 0
      · have t0 : decide (y < 0) = true := by simpa using y0
        go_wp2_with fail
        go_ret
        exact ⟨ret_bool (BAD.out (by simp [inOne]; omega)).symm, H3.weaken le3⟩
      · have t0 : decide (y < 0) = false := by simpa using y0
        by_cases y1 : 4294967295 < y
        · have t1 : decide (4294967295 < y) = true := by simpa using y1
          go_wp2_with fail
          go_ret
          exact ⟨ret_bool (BAD.out (by simp [inOne]; omega)).symm, H3.weaken le3⟩
        · have t1 : decide (4294967295 < y) = false := by simpa using y1
          go_wp2_with fail
          go_roundw
          case rel =>
            refine ⟨j + 1, by go_num, hlt, Hid.mk' (fun k h2 => ?_), H3⟩
            rcases Nat.lt_or_ge k j with h3 | h3
            · exact hA.out k h3
            · obtain rfl : k = j := by omega
              rw [← HY.out]; simp [inOne]; omega
          case measure => simp [intOf]; omega
    · have d1 : decide ((j : Int) < 3) = false := by simp; omega
      obtain rfl : j = 3 := by omega
      have K2 : Hid (inOne 4294967295 attempt = true) := Hid.mk' (by have := hA.out 0 (by omega); rw [HV.out] at this; exact this)
      have K3 : Hid (inOne 4294967295 epoch = true) := Hid.mk' (by have := hA.out 1 (by omega); rw [HV.out] at this; exact this)
      have K4 : Hid (inOne 4294967295 mark = true) := Hid.mk' (by have := hA.out 2 (by omega); rw [HV.out] at this; exact this)
      clear hA HV hlt hj
      obtain ⟨l1, n1, c1⟩ := Holds.frzFacts (H3) hb
      have H4 := H3.weaken le3
      clear H3
      go_wp2_with fail
      refine (hR _).mono ?_
      rintro e w1 ⟨rfl, rfl⟩
      clear hR
      cases h1 : nameOk name with
      | false =>
        go_wp2_with fail
        go_ret
        exact ⟨ret_bool (HX.out.trans (by simp [rcOk, h1])).symm, H4⟩
      | true =>
      have K1 := Hid.mk' h1
      clear h1
      by_cases h1 : size < 0
      · have t1 : decide (size < 0) = true := by simpa using h1
        go_wp2_with fail
        go_ret
        exact ⟨ret_bool (HX.out.trans (by simp [rcOk, inAll, inOne]; omega)).symm, H4⟩
      have t1 : decide (size < 0) = false := by simpa using h1
      by_cases h2 : 240 < size
      · have t2 : decide (240 < size) = true := by simpa using h2
        go_wp2_with fail
        go_ret
        exact ⟨ret_bool (HX.out.trans (by simp [rcOk, inAll, inOne]; omega)).symm, H4⟩
      have t2 : decide (240 < size) = false := by simpa using h2
      by_cases h3 : 240 < n
      · have t3 : decide ((240 : Int) < (n : Int)) = true := by simp; omega
        go_wp2_with fail
        go_ret
        exact ⟨ret_bool (HX.out.trans (by have := HN.out; simp [rcOk, inAll, inOne]; omega)).symm, H4⟩
      have t3 : decide ((240 : Int) < (n : Int)) = false := by simp; omega
      go_upto_region 9 with fail
      have b1 : 0 ≤ attempt ∧ attempt ≤ 4294967295 := by have := K2.out; simpa [inOne] using this
      have b2 : 0 ≤ epoch ∧ epoch ≤ 4294967295 := by have := K3.out; simpa [inOne] using this
      have b3 : 0 ≤ mark ∧ mark ≤ 4294967295 := by have := K4.out; simpa [inOne] using this
      obtain ⟨b1, b1'⟩ := b1
      obtain ⟨b2, b2'⟩ := b2
      obtain ⟨b3, b3'⟩ := b3
      have hxx : x = rcKind (⟨kind, name, attempt, epoch, mark, size, .slice as_ share.length cs_, share⟩ : Rc) := by
        rw [HX.out, rcOk]
        have e1 : inAll 4294967295 [attempt, epoch, mark] = true := by simp [inAll, K2.out, K3.out, K4.out]
        have e2 : inAll 240 [size, (share.length : Int)] = true := by have := HN.out; simp [inAll, inOne]; omega
        simp only [K1.out, e1, e2, Bool.true_and]
      replace HX := Hid.mk' hxx
      clear hxx
      clear t1 t2 t3
      go_cut [5] (fun c wx => c = .bool (rcAll (⟨kind, name, attempt, epoch, mark, size, .slice as_ share.length cs_, share⟩ : Rc)) ∧ wx = wr)
      case first =>
        by_cases a1 : 0 < attempt
        · have t1 : decide (0 < attempt) = true := by simpa using a1
          have A1 := Hid.mk' a1
          clear a1
          by_cases a2 : 0 < epoch
          · have t2 : decide (0 < epoch) = true := by simpa using a2
            have A2 := Hid.mk' a2
            clear a2
            by_cases a3 : 0 < mark
            · have t3 : decide (0 < mark) = true := by simpa using a3
              have A3 := Hid.mk' a3
              clear a3
              go_wp2_with fail
              go_meet
              case rel => exact ⟨congrArg Value.bool (by (try have h1 := A1.out); (try have h2 := A2.out); (try have h3 := A3.out); simp only [rcAll]; simp <;> omega), rfl⟩
            · have t3 : decide (0 < mark) = false := by simpa using a3
              have A3 := Hid.mk' a3
              clear a3
              go_wp2_with fail
              go_meet
              case rel => exact ⟨congrArg Value.bool (by (try have h1 := A1.out); (try have h2 := A2.out); (try have h3 := A3.out); simp only [rcAll]; simp <;> omega), rfl⟩
          · have t2 : decide (0 < epoch) = false := by simpa using a2
            have A2 := Hid.mk' a2
            clear a2
            go_wp2_with fail
            go_meet
            case rel => exact ⟨congrArg Value.bool (by (try have h1 := A1.out); (try have h2 := A2.out); (try have h3 := A3.out); simp only [rcAll]; simp <;> omega), rfl⟩
        · have t1 : decide (0 < attempt) = false := by simpa using a1
          have A1 := Hid.mk' a1
          clear a1
          go_wp2_with fail
          go_meet
          case rel => exact ⟨congrArg Value.bool (by (try have h1 := A1.out); (try have h2 := A2.out); (try have h3 := A3.out); simp only [rcAll]; simp <;> omega), rfl⟩
      obtain ⟨rfl, rfl⟩ := hcut
      obtain ⟨al, hal⟩ : ∃ al, al = rcAll (⟨kind, name, attempt, epoch, mark, size, .slice as_ share.length cs_, share⟩ : Rc) := ⟨_, rfl⟩
      rw [← hal]
      have HAL := Hid.mk' hal
      clear hal
      by_cases k1 : kind = 1
      · subst k1
        by_cases a1 : 0 < attempt
        · have t1 : decide (0 < attempt) = true := by simpa using a1
          have A1 := Hid.mk' a1
          clear a1
          by_cases a2 : epoch = attempt
          · subst a2
            by_cases a3 : mark = 0
            · subst a3
              go_wp2_with fail
              go_ret
              exact ⟨ret_bool (HX.out.trans (by (have hnn := HN.out); (try have h1 := A1.out); (try have h2 := A2.out); (try have h3 := A3.out); (try have h4 := A4.out); (try have h5 := A5.out); (try have h6 := HAL.out); simp only [rcKind, rcAll]; simp [-List.length_eq_zero_iff] <;> omega)).symm, H4⟩
            · have t3 : (mark == 0) = false := by simpa using a3
              have A3 := Hid.mk' a3
              clear a3
              go_wp2_with fail
              go_ret
              exact ⟨ret_bool (HX.out.trans (by (have hnn := HN.out); (try have h1 := A1.out); (try have h2 := A2.out); (try have h3 := A3.out); (try have h4 := A4.out); (try have h5 := A5.out); (try have h6 := HAL.out); simp only [rcKind, rcAll]; simp [-List.length_eq_zero_iff] <;> omega)).symm, H4⟩
          · have t2 : (epoch == attempt) = false := by simpa using a2
            have A2 := Hid.mk' a2
            clear a2
            go_wp2_with fail
            go_ret
            exact ⟨ret_bool (HX.out.trans (by (have hnn := HN.out); (try have h1 := A1.out); (try have h2 := A2.out); (try have h3 := A3.out); (try have h4 := A4.out); (try have h5 := A5.out); (try have h6 := HAL.out); simp only [rcKind, rcAll]; simp [-List.length_eq_zero_iff] <;> omega)).symm, H4⟩
        · have t1 : decide (0 < attempt) = false := by simpa using a1
          have A1 := Hid.mk' a1
          clear a1
          go_wp2_with fail
          go_ret
          exact ⟨ret_bool (HX.out.trans (by (have hnn := HN.out); (try have h1 := A1.out); (try have h2 := A2.out); (try have h3 := A3.out); (try have h4 := A4.out); (try have h5 := A5.out); (try have h6 := HAL.out); simp only [rcKind, rcAll]; simp [-List.length_eq_zero_iff] <;> omega)).symm, H4⟩
      have q1 : (kind == 1) = false := by simpa using k1
      by_cases k2 : kind = 2
      · subst k2
        clear k1 q1
        go_wp2_with fail
        go_ret
        exact ⟨ret_bool (HX.out.trans (by rw [HAL.out]; rfl)).symm, H4⟩
      have q2 : (kind == 2) = false := by simpa using k2
      by_cases k5 : kind = 5
      · subst k5
        clear k1 q1 k2 q2
        go_wp2_with fail
        go_ret
        exact ⟨ret_bool (HX.out.trans (by rw [HAL.out]; rfl)).symm, H4⟩
      have q5 : (kind == 5) = false := by simpa using k5
      by_cases k3 : kind = 3
      · subst k3
        clear k1 q1 k2 q2 k5 q5
        have h3 : x = (al && decide (share.length = 0)) := by rw [HX.out, HAL.out]; rfl
        replace HX := Hid.mk' h3
        clear h3
        cases al with
        | false =>
          go_wp2_with fail
          go_ret
          exact ⟨ret_bool (HX.out.trans rfl).symm, H4⟩
        | true =>
          by_cases hn0 : n = 0
          · have t0 : ((n : Int) == 0) = true := by rw [beq_iff_eq]; omega
            have A1 := Hid.mk' hn0
            clear hn0
            go_wp2_with fail
            go_ret
            exact ⟨ret_bool (HX.out.trans (by rw [← HN.out, A1.out]; rfl)).symm, H4⟩
          · have t0 : ((n : Int) == 0) = false := by rw [beq_eq_false_iff_ne]; omega
            have A1 := Hid.mk' hn0
            clear hn0
            go_wp2_with fail
            go_ret
            exact ⟨ret_bool (HX.out.trans (by rw [← HN.out, decide_eq_false A1.out]; rfl)).symm, H4⟩
      have q3 : (kind == 3) = false := by simpa using k3
      by_cases k4 : kind = 4
      · subst k4
        clear k1 q1 k2 q2 k5 q5 k3 q3
        clear HAL
        by_cases a1 : attempt = 0
        · subst a1
          by_cases a2 : epoch = 0
          · subst a2
            by_cases a3 : 0 < mark
            · have t3 : decide (0 < mark) = true := by simpa using a3
              have A3 := Hid.mk' a3
              clear a3
              by_cases a4 : size = 0
              · subst a4
                by_cases hn0 : n = 0
                · have t0 : ((n : Int) == 0) = true := by rw [beq_iff_eq]; omega
                  have A1 := Hid.mk' hn0
                  clear hn0
                  go_wp2_with fail
                  go_ret
                  exact ⟨ret_bool (HX.out.trans (by (have hnn := HN.out); (try have h1 := A1.out); (try have h2 := A2.out); (try have h3 := A3.out); (try have h4 := A4.out); (try have h5 := A5.out); (try have h6 := HAL.out); simp only [rcKind, rcAll]; simp [-List.length_eq_zero_iff] <;> omega)).symm, H4⟩
                · have t0 : ((n : Int) == 0) = false := by rw [beq_eq_false_iff_ne]; omega
                  have A1 := Hid.mk' hn0
                  clear hn0
                  go_wp2_with fail
                  go_ret
                  exact ⟨ret_bool (HX.out.trans (by (have hnn := HN.out); (try have h1 := A1.out); (try have h2 := A2.out); (try have h3 := A3.out); (try have h4 := A4.out); (try have h5 := A5.out); (try have h6 := HAL.out); simp only [rcKind, rcAll]; simp [-List.length_eq_zero_iff] <;> omega)).symm, H4⟩
              · have t4 : (size == 0) = false := by simpa using a4
                have A4 := Hid.mk' a4
                clear a4
                go_wp2_with fail
                go_ret
                exact ⟨ret_bool (HX.out.trans (by (have hnn := HN.out); (try have h1 := A1.out); (try have h2 := A2.out); (try have h3 := A3.out); (try have h4 := A4.out); (try have h5 := A5.out); (try have h6 := HAL.out); simp only [rcKind, rcAll]; simp [-List.length_eq_zero_iff] <;> omega)).symm, H4⟩
            · have t3 : decide (0 < mark) = false := by simpa using a3
              have A3 := Hid.mk' a3
              clear a3
              go_wp2_with fail
              go_ret
              exact ⟨ret_bool (HX.out.trans (by (have hnn := HN.out); (try have h1 := A1.out); (try have h2 := A2.out); (try have h3 := A3.out); (try have h4 := A4.out); (try have h5 := A5.out); (try have h6 := HAL.out); simp only [rcKind, rcAll]; simp [-List.length_eq_zero_iff] <;> omega)).symm, H4⟩
          · have t2 : (epoch == 0) = false := by simpa using a2
            have A2 := Hid.mk' a2
            clear a2
            go_wp2_with fail
            go_ret
            exact ⟨ret_bool (HX.out.trans (by (have hnn := HN.out); (try have h1 := A1.out); (try have h2 := A2.out); (try have h3 := A3.out); (try have h4 := A4.out); (try have h5 := A5.out); (try have h6 := HAL.out); simp only [rcKind, rcAll]; simp [-List.length_eq_zero_iff] <;> omega)).symm, H4⟩
        · have t1 : (attempt == 0) = false := by simpa using a1
          have A1 := Hid.mk' a1
          clear a1
          go_wp2_with fail
          go_ret
          exact ⟨ret_bool (HX.out.trans (by (have hnn := HN.out); (try have h1 := A1.out); (try have h2 := A2.out); (try have h3 := A3.out); (try have h4 := A4.out); (try have h5 := A5.out); (try have h6 := HAL.out); simp only [rcKind, rcAll]; simp [-List.length_eq_zero_iff] <;> omega)).symm, H4⟩
      have q4 : (kind == 4) = false := by simpa using k4
      have A1 := Hid.mk' (show ¬ kind = 1 ∧ ¬ kind = 2 ∧ ¬ kind = 3 ∧ ¬ kind = 4 ∧ ¬ kind = 5 from ⟨k1, k2, k3, k4, k5⟩)
      clear k1 k2 k3 k4 k5
      go_wp2_with fail
      go_ret
      obtain ⟨k1, k2, k3, k4, k5⟩ := A1.out
      exact ⟨ret_bool (HX.out.trans (by simp [rcKind, k1, k2, k3, k4, k5])).symm, H4⟩
end Sh
/- Records' laws: what all of them use. -/
set_option linter.unusedVariables false
set_option linter.unusedSimpArgs false
namespace Sh
open Go Go.RowKit Go.Proofs
attribute [local go_sem ↓] Go.wp_at_zero Go.wp_at_succ
set_option maxHeartbeats 1000000
set_option maxRecDepth 100000

theorem recFar_spec {w : World} {R : Snap} {L : Asrt} (r : Rc) (H : Holds w R L) (hr : r.Rd R.cell?) :
    Calls Try.prog 72 #[.agg r.cells.toArray] w fun e w' => e = .returned (.bool (decide (40 < r.name.size) || decide (300 < r.share.length))) ∧ Holds w' R L := by
  obtain ⟨kind, name, attempt, epoch, mark, size, vs, share⟩ := r
  have hs : RdB R.cell? vs share := hr
  obtain ⟨as_, cs_, rfl⟩ := hs.form
  show Calls _ _ #[.agg #[.int .i64 kind, .string name, .int .i64 attempt, .int .i64 epoch, .int .i64 mark, .int .i64 size, .slice as_ share.length cs_]] _ fun e w' => e = .returned (.bool (decide (40 < name.size) || decide (300 < share.length))) ∧ Holds w' R L
  have hmx := hs.max
  unfold maxLen at hmx
  obtain ⟨n, hn⟩ : ∃ n, n = share.length := ⟨_, rfl⟩
  obtain ⟨k, hk⟩ : ∃ k, k = name.size := ⟨_, rfl⟩
  have hkk : (name.size : Int) = (k : Int) := by omega
  rw [← hn] at hmx ⊢
  rw [← hk]
  have H1 := H.garbage (.cells #[.int .i64 kind, .string name, .int .i64 attempt, .int .i64 epoch, .int .i64 mark, .int .i64 size, .slice as_ n cs_] tRec)
  clear hs hn hr hk
  by_cases h1 : 40 < k
  · have t1 : decide ((40 : Int) < (k : Int)) = true := by simp; omega
    go_enter Try.func72, Try.ntmps72
    go_wp2_with fail
    go_ret
    exact ⟨ret_bool (by simp [h1]), H1⟩
  · have t1 : decide ((40 : Int) < (k : Int)) = false := by simp; omega
    go_enter Try.func72, Try.ntmps72
    go_wp2_with fail
    go_ret
    exact ⟨ret_bool (by simp [h1]; omega), H1⟩
theorem recCount_spec {w : World} {R : Snap} {L : Asrt} (r : Rc) (H : Holds w R L) (hr : r.Rd R.cell?) (hz : r.Sz) :
    Calls Try.prog 81 #[.agg r.cells.toArray] w fun e w' => e = .returned (.int .i64 ((if rcOk r = true then (putR r).length else 0 : Nat) : Int)) ∧ Holds w' R L := by
  obtain ⟨y, hy⟩ : ∃ y, y = (if rcOk r = true then (putR r).length else 0) := ⟨_, rfl⟩
  rw [← hy]
  have HY := Hid.mk' hy
  have HR := Hid.mk' hr
  have HZ := Hid.mk' hz
  obtain ⟨kind, name, attempt, epoch, mark, size, vs, share⟩ := r
  obtain ⟨z1, z2⟩ := hz
  have hs := hr
  simp only [Rc.Rd] at z1 z2 hs
  obtain ⟨as_, cs_, rfl⟩ := hs.form
  obtain ⟨n, hn⟩ : ∃ n, n = share.length := ⟨_, rfl⟩
  have HN := Hid.mk' hn
  obtain ⟨R1, le1, H1, hb⟩ := H.allocR (.cells #[.int .i64 kind, .string name, .int .i64 attempt, .int .i64 epoch, .int .i64 mark, .int .i64 size, .slice as_ share.length cs_] tRec (0, 0))
  show Calls _ _ #[.agg #[.int .i64 kind, .string name, .int .i64 attempt, .int .i64 epoch, .int .i64 mark, .int .i64 size, .slice as_ share.length cs_]] _ _
  have hb' : R1.blk w.heap.size = some (.cells #[.int .i64 kind, .string name, .int .i64 attempt, .int .i64 epoch, .int .i64 mark, .int .i64 size, .slice as_ n cs_] tRec (0, 0)) := by rw [hn]; exact hb
  rw [← hn] at z2
  simp only [← hn] at H1 ⊢
  clear hs hr hy hb hn H
  obtain ⟨l1, n1, c1⟩ := Holds.frzFacts (H1) hb'
  go_enter Try.func81, Try.ntmps81
  go_upto_region 1 with fail
  generalize (World.alloc ..) = w1 at H1 l1 n1 c1 ⊢
  generalize w.heap.size = g1 at hb' l1 n1 c1 ⊢
  go_wp2_with fail
  have hcl : (Value.agg #[.int .i64 kind, .string name, .int .i64 attempt, .int .i64 epoch, .int .i64 mark, .int .i64 size, .slice as_ n cs_]) = .agg ((⟨kind, name, attempt, epoch, mark, size, .slice as_ share.length cs_, share⟩ : Rc)).cells.toArray := by rw [HN.out]; rfl
  rw [hcl]
  clear hcl
  refine (recRight_spec (⟨kind, name, attempt, epoch, mark, size, .slice as_ share.length cs_, share⟩ : Rc) H1 (HR.out.le le1) HZ.out).mono ?_
  rintro e w3 ⟨rfl, H3⟩
  clear H1 l1 n1 c1
  obtain ⟨l1, n1, c1⟩ := Holds.frzFacts (H3) hb'
  cases hok : rcOk (⟨kind, name, attempt, epoch, mark, size, .slice as_ share.length cs_, share⟩ : Rc) with
  | false =>
    have HOK := Hid.mk' hok
    clear hok
    go_wp2_with fail
    go_ret
    exact ⟨by rw [HY.out, if_neg (by rw [HOK.out]; decide)]; rfl, H3.weaken le1⟩
  | true =>
    have HOK := Hid.mk' hok
    clear hok
    go_wp2_with fail
    refine (bodies_spec n z2 _).mono ?_
    rintro e w4 ⟨rfl, rfl⟩
    have hb9 : bodiesN n ≤ 100000 := by unfold bodiesN; omega
    obtain ⟨m, hm⟩ : ∃ m, m = 1 + bodiesN n := ⟨_, rfl⟩
    have e1 : (1 : Int) + ((bodiesN n : Nat) : Int) = (m : Int) := by omega
    have HM := Hid.mk' hm
    clear hm
    go_wp2_with fail
    go_ret
    have : y = m := by rw [HY.out, if_pos HOK.out, putR_len, HM.out, HN.out]
    exact ⟨by rw [this]; rfl, H3.weaken le1⟩
def someR (n : Nat) : Rc := ⟨2, ⟨#[97]⟩, 3, 5, 7, 9, .slice none 0 0, List.replicate n 0⟩
theorem some_spec {w : World} {R : Snap} {L : Asrt} (n : Nat) (hn : n ≤ 1000) (H : Holds w R L) :
    Calls Try.prog 153 #[.int .i64 (n : Nat)] w fun e w' => ∃ R', R.le R' ∧ ∃ M : Rc, e = .returned (.agg M.cells.toArray) ∧ M.con = (someR n).con ∧ M.Rd R'.cell? ∧ M.Sz ∧ Holds w' R' L := by
  have H1 := H.alloc #[.int .i64 0, .string ⟨#[]⟩, .int .i64 0, .int .i64 0, .int .i64 0, .int .i64 0, .slice none 0 0] tRec
  clear H
  have hnw : wrap64 (n : Int) = (n : Int) := IntWalk.wrap64_in _ (by omega)
  go_enter Try.func153, Try.ntmps153
  go_wp2_with (with_reducible refine stop_make ?_)
  refine Hold.go (wpList_makeB (n := n) rfl _ _ rfl rfl rfl H1 (by omega) ?_)
  intro v2 w2 H2
  obtain ⟨R3, le3, H3, hr3⟩ := H2.freezeRow
  obtain ⟨m, hm⟩ : ∃ m, m = (List.replicate n (0 : UInt8)).length := ⟨_, rfl⟩
  replace hr3 : RdB R3.cell? v2 (List.replicate n 0) := hr3
  obtain ⟨a3, c3, rfl⟩ := hr3.form
  have HR3 := Hid.mk' hr3
  simp only [List.length_replicate]
  generalize w.heap.size = z at H3 ⊢
  clear H1 H2 hr3 hm
  obtain ⟨l8, n8, c8, z8⟩ := Holds.facts (H3)
  go_wp2_with fail
  have H13 := Holds.blkFull H3 [.int .i64 2, .string ⟨#[97]⟩, .int .i64 3, .int .i64 5, .int .i64 7, .int .i64 9, .slice a3 n c3] rfl
  clear l8 n8 c8 z8
  generalize hw9 : World.setCell .. = w13
  replace H13 := Holds.at hw9 H13
  clear hw9
  refine bodyPost_ret (results_cell_row rfl _ _ z tRec _ (0, 0) _ rfl H13.blkAt Try.underlying108 rfl (by kernel_rfl)) rfl ?_
  exact ⟨R3, le3, ⟨2, ⟨#[97]⟩, 3, 5, 7, 9, .slice a3 n c3, List.replicate n 0⟩, rfl, rfl, RdB.at_len HR3.out (List.length_replicate ..), ⟨by show (⟨#[97]⟩ : ByteArray).size ≤ maxLen; decide, by show (List.replicate n (0 : UInt8)).length ≤ 1000000; rw [List.length_replicate]; omega⟩, H13.drop⟩
theorem same04_spec {w : World} {R : Snap} {L : Asrt} {u v : Value} {ss tt : List (Value × List UInt8)} (H : Holds w R L) (hu : RdBB R.cell? u ss) (hv : RdBB R.cell? v tt) (hs : ∀ x ∈ ss, x.2.length ≤ 1000000) (ht : ∀ x ∈ tt, x.2.length ≤ 1000000) :
    Calls Try.prog 67 #[u, v] w fun e w' => e = .returned (.bool (decide (ss.map Prod.snd = tt.map Prod.snd))) ∧ Holds w' R L := by
  obtain ⟨y, hy⟩ : ∃ y, y = decide (ss.map Prod.snd = tt.map Prod.snd) := ⟨_, rfl⟩
  rw [← hy]
  have HY := Hid.mk' hy
  obtain ⟨a, ca, rfl⟩ := hu.form
  obtain ⟨b, cb, rfl⟩ := hv.form
  have hmx := (Rd.max hu.1)
  unfold maxLen at hmx
  have HU := Hid.mk' hu
  have HV := Hid.mk' hv
  have HS := Hid.mk' hs
  have HT := Hid.mk' ht
  obtain ⟨n, hn⟩ : ∃ n, n = ss.length := ⟨_, rfl⟩
  obtain ⟨m, hm⟩ : ∃ m, m = tt.length := ⟨_, rfl⟩
  have HN := Hid.mk' hn
  have HM := Hid.mk' hm
  rw [← hn] at hmx
  rw [← hn, ← hm]
  clear hu hv hs ht hn hm hy
  by_cases hnm : n = m
  · subst hnm
    go_enter Try.func67, Try.ntmps67
    go_wp2_with fail
    go_loopw [5] (fun i wx => ∃ j : Nat, i = .int .i64 j ∧ j ≤ n ∧ Hid ((ss.map Prod.snd).take j = (tt.map Prod.snd).take j) ∧ Holds wx R L) (fun i _ => n - (intOf i).toNat)
    case atStart => exact ⟨0, rfl, Nat.zero_le _, Hid.mk' rfl, H⟩
    case round =>
      clear H
      obtain ⟨j, rfl, hj, hA, H3⟩ := hrel
      by_cases hlt : j < n
      · have d1 : decide ((j : Int) < (n : Int)) = true := by simp; omega
        have hjs : j < ss.length := by rw [← HN.out]; exact hlt
        have hjt : j < tt.length := by rw [← HM.out]; exact hlt
        obtain ⟨b2, o2, ha2, hc2, hq2⟩ := RdBB.at HU.out hjs
        obtain ⟨b3, o3, ha3, hc3, hq3⟩ := RdBB.at HV.out hjt
        subst ha2 ha3
        replace hc2 := H3.cell hc2
        replace hc3 := H3.cell hc3
        have hl2 := HS.out _ (List.getElem_mem hjs)
        have hl3 := HT.out _ (List.getElem_mem hjt)
        have g2 : (ss.map Prod.snd)[j]? = some ss[j].2 := by rw [List.getElem?_map, List.getElem?_eq_getElem hjs]; rfl
        have g3 : (tt.map Prod.snd)[j]? = some tt[j].2 := by rw [List.getElem?_map, List.getElem?_eq_getElem hjt]; rfl
        generalize ss[j] = x2 at *
        generalize tt[j] = x3 at *
        obtain ⟨v2, l2⟩ := x2
        obtain ⟨v3, l3⟩ := x3
        simp only at hc2 hc3 hq2 hq3 hl2 hl3 g2 g3
        obtain ⟨av2, cv2, rfl⟩ := hq2.form
        obtain ⟨av3, cv3, rfl⟩ := hq3.form
        have hq := fun w' (h : Holds w' R L) => same_spec (Rd.world hq2 h) (Rd.world hq3 h) hl2 hl3
        have HQ := Hid.mk' hq
        have G2 := Hid.mk' g2
        have G3 := Hid.mk' g3
        have i1 : (0 : Int) ≤ (j : Int) := by omega
        have i2 : (j : Int) < (n : Int) := by omega
        have HH := Hid.mk' H3
        clear hq hq2 hq3 hl2 hl3 g2 g3 hjs hjt
        go_wp2_with fail
        go_quiet ((go_at_call 27; exact Calls.quiet_of (HQ.out _ (H3.drewN _))))
        by_cases hll : l2 = l3
        · rw [decide_eq_true hll]
          have HLL := Hid.mk' hll
          clear hll
          go_wp2_with fail
          go_roundw
          case rel =>
            refine ⟨j + 1, by go_num, hlt, Hid.mk' ?_, H3.drewN _⟩
            have e1 := List.take_add_one (l := ss.map Prod.snd) (i := j)
            have e2 := List.take_add_one (l := tt.map Prod.snd) (i := j)
            rw [e1, e2, hA.out, G2.out, G3.out, HLL.out]
          case measure => simp [intOf]; omega
        · rw [decide_eq_false hll]
          have hyy : y = false := by
            rw [HY.out, decide_eq_false_iff_not]
            intro h
            rw [h, G3.out] at G2
            exact hll (Option.some.inj G2.out).symm
          have HYY := Hid.mk' hyy
          clear hyy hll
          go_wp2_with fail
          go_ret
          exact ⟨ret_bool HYY.out.symm, H3.drewN _⟩
      · have d1 : decide ((j : Int) < (n : Int)) = false := by simp; omega
        have hyy : y = true := by
          rw [HY.out, decide_eq_true_eq]
          have h := hA.out
          rwa [List.take_of_length_le (by rw [List.length_map, ← HN.out]; omega), List.take_of_length_le (by rw [List.length_map, ← HM.out]; omega)] at h
        have HYY := Hid.mk' hyy
        clear hyy
        go_wp2_with fail
        go_ret
        exact ⟨ret_bool HYY.out.symm, H3⟩
  · have t0 : ((n : Int) != (m : Int)) = true := by simp; omega
    have hyy : y = false := by
      rw [HY.out, decide_eq_false_iff_not]
      intro h
      have := congrArg List.length h
      rw [List.length_map, List.length_map, ← HN.out, ← HM.out] at this
      exact hnm this
    have HYY := Hid.mk' hyy
    clear hyy hnm
    go_enter Try.func67, Try.ntmps67
    go_wp2_with fail
    go_ret
    exact ⟨ret_bool HYY.out.symm, H⟩
end Sh
/- Records' laws: the document's example. -/
set_option linter.unusedVariables false
set_option linter.unusedSimpArgs false
namespace Sh
open Go Go.RowKit Go.Proofs
attribute [local go_sem ↓] Go.wp_at_zero Go.wp_at_succ
set_option maxHeartbeats 1000000
set_option maxRecDepth 100000

theorem some_ok : rcOk (someR 49) = true := by decide
theorem putR_some {M : Rc} (h : M.con = (someR 49).con) : (putR M).length = 3 := by rw [putR_con h, putR_len]; decide
set_option maxHeartbeats 8000000
theorem alive20 {w : World} {R : Snap} {L : Asrt} (H : Holds w R L) (hcy : L.celly) : Calls Try.prog 73 #[] w fun e w' => e = .returned (.bool true) ∧ Holds w' R L := by
  go_enter Try.func73, Try.ntmps73
  go_wp2_with fail
  refine (new_crc H).mono ?_
  rintro e w1 ⟨p, rfl, H1⟩
  obtain ⟨R1, le1, H2, hT⟩ := H1.freezeBlk
  clear H1 H
  go_wp2_with fail
  refine (some_spec 49 (by decide) H2).mono ?_
  rintro e w2 ⟨R2, le2, M1, rfl, hc1, hr1, hz1, H3⟩
  have hT2 := le2.blk _ _ hT
  have hok1 : rcOk M1 = true := (rcOk_con hc1).trans some_ok
  have HC1 := Hid.mk' hc1
  have HOK1 := Hid.mk' hok1
  have leA := le1.trans le2
  clear H2 hT hc1 hok1 le1 le2
  go_wp2_with fail
  refine (recPut_ok M1 H3 hcy hT2 hr1 hz1 HOK1.out).mono ?_
  rintro e w3 ⟨o, q, rfl, hq, H4⟩
  obtain ⟨R4, le4, H5, hqq⟩ := freezeBB H4
  have hql : q.length = 3 := by
    have := congrArg List.length hq
    rw [List.length_map, putR_some HC1.out] at this
    exact this
  obtain ⟨ao, co, rfl⟩ := hqq.form
  have hT4 := le4.blk _ _ hT2
  have HQ := Hid.mk' hq
  have HQL := Hid.mk' hql
  have HQQ := Hid.mk' hqq
  simp only [hql]
  replace leA := leA.trans le4
  clear H3 H4 hT2 hq hr1 hz1 le4
  go_wp2_with fail
  have hqv : RdBB R4.cell? (.slice ao 3 co) q := by rw [← HQL.out]; exact HQQ.out
  clear hql hqq
  refine recGet_spec H5 hcy hT4 hqv (by rw [HQL.out]; decide) ?_
  intro R6 M n ok w6 le6 hG hMR hMZ H6
  have hpre : putR M1 <+: q.map Prod.snd := by rw [HQ.out]; exact List.prefix_refl _
  have hG' : ok = true ∧ rcOk M = true ∧ putR M <+: q.map Prod.snd ∧ n = (putR M).length := by
    rcases hG with h | ⟨_, _, _, h4⟩
    · exact h
    · exact absurd hpre (h4 M1 HOK1.out)
  obtain ⟨rfl, h1, h2, h3⟩ := hG'
  have hcM : M.con = (someR 49).con := (put_one h1 HOK1.out h2 hpre).trans HC1.out
  rw [putR_some hcM] at h3
  subst h3
  have HRR := Hid.mk' hMR
  have HZZ := Hid.mk' hMZ
  have HS1 : Hid (∀ x : Rc, x.con = (someR 49).con → rcSame M x = true) := Hid.mk' (fun x hx => rcSame_yes (hcM.trans hx.symm))
  have HS2 : Hid (∀ x : Rc, x.con = (someR 48).con → rcSame M x = false) := Hid.mk' (fun x hx => decide_eq_false (by
    rw [hcM, hx]
    intro h
    have := congrArg (fun x => x.2.2.length) h
    simp [Rc.con, someR] at this))
  have HCN : Hid ((if rcOk M = true then (putR M).length else 0) = 3) := Hid.mk' (by rw [if_pos h1, putR_some hcM])
  clear h1 h2 hcM hpre hqv H5 hG
  replace leA := leA.trans le6
  obtain ⟨kind, name, attempt, epoch, mark, size, vs, share⟩ := M
  obtain ⟨z1, z2⟩ := hMZ
  have hs := hMR
  simp only [Rc.Rd] at z1 z2 hs
  obtain ⟨as_, cs_, rfl⟩ := hs.form
  have hcl : ((⟨kind, name, attempt, epoch, mark, size, .slice as_ share.length cs_, share⟩ : Rc)).cells = [.int .i64 kind, .string name, .int .i64 attempt, .int .i64 epoch, .int .i64 mark, .int .i64 size, .slice as_ share.length cs_] := rfl
  simp only [hcl]
  obtain ⟨R7, le7, H7, hb7⟩ := H6.allocR (.cells #[.int .i64 kind, .string name, .int .i64 attempt, .int .i64 epoch, .int .i64 mark, .int .i64 size, .slice as_ share.length cs_] tRec (0, 0))
  clear hs hMR z1 z2 hcl
  go_upto_region 4 with fail
  generalize (World.alloc ..) = w7 at H7 ⊢
  generalize w6.heap.size = g7 at hb7 ⊢
  obtain ⟨l7, n7, c7⟩ := Holds.frzFacts (H7) hb7
  go_region_held3 (fun w' => (∀ o, w'.cell? ⟨g7, o, none⟩ = #[.int .i64 kind, .string name, .int .i64 attempt, .int .i64 epoch, .int .i64 mark, .int .i64 size, .slice as_ share.length cs_][o]?)) (first | (exact H25.frz (le23.blk _ _ (le21.blk _ _ hb7))) | (exact H24.frz (le23.blk _ _ (le21.blk _ _ hb7))) | (exact H23.frz (le23.blk _ _ (le21.blk _ _ hb7))) | (exact H22.frz (le21.blk _ _ hb7)) | (exact H21.frz (le21.blk _ _ hb7)) | ((repeat' (first | assumption | (with_reducible refine And.intro ?_ ?_) | (with_reducible refine keep_drew ?_) | (with_reducible refine keep_drewN ?_) | (with_reducible refine keep_alloc ?_ (by first | assumption | (simp only [World.size_alloc, World.size_drew, World.size_setCell]; omega))) | (with_reducible refine keep_set ?_ (by first | assumption | omega)))))) (first | (go_at_call 153; first | (refine (some_spec 48 (by decide) H22).mono ?_; rintro e w23 ⟨R23, le23, M23, rfl, hc23, hr23, hz23, H23⟩) | (refine (some_spec 49 (by decide) H7.drew).mono ?_; rintro e w21 ⟨R21, le21, M21, rfl, hc21, hr21, hz21, H21⟩)) | (go_at_call 79; first | (refine (recSame_spec (⟨kind, name, attempt, epoch, mark, size, .slice as_ share.length cs_, share⟩ : Rc) M23 H23 (((HRR.out.le le7).le le21).le le23) HZZ.out hr23 hz23).mono ?_; rintro e w24 ⟨rfl, H24⟩; rw [HS2.out _ hc23]) | (refine (recSame_spec (⟨kind, name, attempt, epoch, mark, size, .slice as_ share.length cs_, share⟩ : Rc) M21 H21 ((HRR.out.le le7).le le21) HZZ.out hr21 hz21).mono ?_; rintro e w22 ⟨rfl, H22⟩; rw [HS1.out _ hc21])) | (go_at_call 81; refine (recCount_spec (⟨kind, name, attempt, epoch, mark, size, .slice as_ share.length cs_, share⟩ : Rc) H24 (((HRR.out.le le7).le le21).le le23) HZZ.out).mono ?_; rintro e w25 ⟨rfl, H25⟩; rw [HCN.out]) | (go_at_call 77; refine (role_spec 5 _).mono ?_; rintro e w26 ⟨rfl, rfl⟩; rw [show roleI 5 = 2 from rfl]))
  all_goals
    go_wp2_with fail
    go_ret
    exact ⟨rfl, H25.weaken (leA.trans (le7.trans (le21.trans le23)))⟩
end Sh
