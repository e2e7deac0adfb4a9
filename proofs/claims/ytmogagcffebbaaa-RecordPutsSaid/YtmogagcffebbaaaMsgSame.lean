/- sherdref08.SameInts, sherdref07.Same, Far; sherdref25.Same, SameAll, Far. -/
import Derived.Test.YtmogagcffebbaaaMsg
set_option linter.unusedVariables false
set_option linter.unusedSimpArgs false
namespace Sh
open Go Go.RowKit Go.Proofs
attribute [local go_sem ↓] Go.wp_at_zero Go.wp_at_succ
set_option maxHeartbeats 1000000
set_option maxRecDepth 100000

theorem take_snoc_any {α : Type} {l k : List α} {j : Nat} (hl : j < l.length) (hk : j < k.length) (h : l.take j = k.take j) (e : l[j] = k[j]) : l.take (j + 1) = k.take (j + 1) := by
  rw [List.take_succ_eq_append_getElem hl, List.take_succ_eq_append_getElem hk, h, e]
theorem strEq (x y : ByteArray) : (x.toList == y.toList) = decide (x = y) := by
  rw [ByteArray.toList_eq, ByteArray.toList_eq, Bool.eq_iff_iff, beq_iff_eq, decide_eq_true_eq]
  constructor
  · intro h
    obtain ⟨⟨a⟩⟩ := x
    obtain ⟨⟨b⟩⟩ := y
    simp only at h
    rw [h]
  · rintro rfl; rfl
theorem sameInts_spec {w : World} {R : Snap} {L : Asrt} {u v : Value} {l k : List Int} (H : Holds w R L) (hu : ∀ w', Holds w' R L → RdI w'.cell? u l) (hv : ∀ w', Holds w' R L → RdI w'.cell? v k) (hl : l.length ≤ 1000000) (hk : k.length ≤ 1000000) :
    Calls Try.prog 113 #[u, v] w fun e w' => e = .returned (.bool (decide (l = k))) ∧ Holds w' R L := by
  obtain ⟨a, ca, rfl⟩ := (hu w H).form
  obtain ⟨b, cb, rfl⟩ := (hv w H).form
  by_cases hlen : l.length = k.length
  · obtain ⟨n, hn⟩ : ∃ n, n = k.length := ⟨_, rfl⟩
    have HL : Hid (l.length = n) := Hid.mk' (by omega)
    have HK : Hid (k.length = n) := Hid.mk' hn.symm
    have HU := Hid.mk' hu
    have HV := Hid.mk' hv
    rw [hlen, ← hn]
    have hn9 : n ≤ 1000000 := by omega
    clear hlen hn hu hv
    go_enter Try.func113, Try.ntmps113
    go_wp2_with fail
    go_loopw [5] (fun i wr => ∃ j : Nat, i = .int .i64 j ∧ j ≤ n ∧ Hid (l.take j = k.take j) ∧ Holds wr R L) (fun i _ => n - (intOf i).toNat)
    case atStart => exact ⟨0, rfl, Nat.zero_le _, rfl, H⟩
    case round =>
      clear H
      obtain ⟨j, rfl, hj, ht, H1⟩ := hrel
      by_cases hlt : j < n
      · have hjl : j < l.length := by have := HL.out; omega
        have hjk : j < k.length := by have := HK.out; omega
        have hu1 := HU.out _ H1
        have hv1 := HV.out _ H1
        obtain ⟨b1, o1, ha, c1⟩ := rdI_at hu1 hjl
        subst ha
        obtain ⟨b2, o2, ha, c2⟩ := rdI_at hv1 hjk
        subst ha
        obtain ⟨x, hx⟩ : ∃ x, x = l[j] := ⟨_, rfl⟩
        obtain ⟨y, hy⟩ : ∃ y, y = k[j] := ⟨_, rfl⟩
        rw [← hx] at c1
        rw [← hy] at c2
        have HXY := Hid.mk' (And.intro hx hy)
        clear hx hy hu1 hv1
        cases hxy : x != y with
        | true =>
          go_wp2_with fail
          go_quiet (fail)
          go_wp2_with fail
          go_ret
          refine ⟨ret_bool ?_, H1.drewN _⟩
          symm; rw [decide_eq_false_iff_not]
          intro e
          have h1 := HXY.out.1
          have h2 := HXY.out.2
          subst e
          rw [h1, h2] at hxy
          simp at hxy
        | false =>
          go_wp2_with fail
          go_quiet (fail)
          go_wp2_with fail
          go_roundw
          case rel =>
            refine ⟨j + 1, by go_num, hlt, Hid.mk' ?_, H1.drewN _⟩
            have e : x = y := by simpa using hxy
            exact take_snoc_any hjl hjk ht.out (by rw [← HXY.out.1, ← HXY.out.2, e])
          case measure => simp [intOf]; omega
      · go_wp2_with fail
        go_ret
        refine ⟨ret_bool ?_, H1⟩
        symm; rw [decide_eq_true_eq]
        have h1 := ht.out
        have h2 := HL.out
        have h3 := HK.out
        rwa [List.take_of_length_le (by omega), List.take_of_length_le (by omega)] at h1
  · have h1 : ((l.length : Int) != (k.length : Int)) = true := by simp; omega
    go_enter Try.func113, Try.ntmps113
    go_wp2_with fail
    go_ret
    exact ⟨ret_bool (by symm; rw [decide_eq_false_iff_not]; rintro rfl; exact hlen rfl), H⟩
theorem sameStrs_spec {w : World} {R : Snap} {L : Asrt} {u v : Value} {l k : List ByteArray} (H : Holds w R L) (hu : ∀ w', Holds w' R L → RdS w'.cell? u l) (hv : ∀ w', Holds w' R L → RdS w'.cell? v k) (hl : l.length ≤ 1000000) (hk : k.length ≤ 1000000) :
    Calls Try.prog 114 #[u, v] w fun e w' => e = .returned (.bool (decide (l = k))) ∧ Holds w' R L := by
  obtain ⟨a, ca, rfl⟩ := (hu w H).form
  obtain ⟨b, cb, rfl⟩ := (hv w H).form
  by_cases hlen : l.length = k.length
  · obtain ⟨n, hn⟩ : ∃ n, n = k.length := ⟨_, rfl⟩
    have HL : Hid (l.length = n) := Hid.mk' (by omega)
    have HK : Hid (k.length = n) := Hid.mk' hn.symm
    have HU := Hid.mk' hu
    have HV := Hid.mk' hv
    rw [hlen, ← hn]
    have hn9 : n ≤ 1000000 := by omega
    clear hlen hn hu hv
    go_enter Try.func114, Try.ntmps114
    go_wp2_with fail
    go_loopw [5] (fun i wr => ∃ j : Nat, i = .int .i64 j ∧ j ≤ n ∧ Hid (l.take j = k.take j) ∧ Holds wr R L) (fun i _ => n - (intOf i).toNat)
    case atStart => exact ⟨0, rfl, Nat.zero_le _, rfl, H⟩
    case round =>
      clear H
      obtain ⟨j, rfl, hj, ht, H1⟩ := hrel
      by_cases hlt : j < n
      · have hjl : j < l.length := by have := HL.out; omega
        have hjk : j < k.length := by have := HK.out; omega
        have hu1 := HU.out _ H1
        have hv1 := HV.out _ H1
        obtain ⟨b1, o1, ha, c1⟩ := rdS_at hu1 hjl
        subst ha
        obtain ⟨b2, o2, ha, c2⟩ := rdS_at hv1 hjk
        subst ha
        obtain ⟨x, hx⟩ : ∃ x, x = l[j] := ⟨_, rfl⟩
        obtain ⟨y, hy⟩ : ∃ y, y = k[j] := ⟨_, rfl⟩
        rw [← hx] at c1
        rw [← hy] at c2
        have HXY := Hid.mk' (And.intro hx hy)
        clear hx hy hu1 hv1
        go_wp2_with fail
        go_quiet (fail)
        go_wp2_with fail
        · rename_i hxy
          go_ret
          refine ⟨ret_bool ?_, H1.drewN _⟩
          symm; rw [decide_eq_false_iff_not]
          intro e
          have h1 := HXY.out.1
          have h2 := HXY.out.2
          have h3 : x = y := by rw [h1, h2]; subst e; rfl
          rw [strEq, h3] at hxy
          simp at hxy
        · rename_i hxy
          go_roundw
          case rel =>
            refine ⟨j + 1, by go_num, hlt, Hid.mk' ?_, H1.drewN _⟩
            rw [strEq] at hxy
            have e : x = y := by simpa using hxy
            exact take_snoc_any hjl hjk ht.out (by rw [← HXY.out.1, ← HXY.out.2, e])
          case measure => simp [intOf]; omega
      · go_wp2_with fail
        go_ret
        refine ⟨ret_bool ?_, H1⟩
        symm; rw [decide_eq_true_eq]
        have h1 := ht.out
        have h2 := HL.out
        have h3 := HK.out
        rwa [List.take_of_length_le (by omega), List.take_of_length_le (by omega)] at h1
  · have h1 : ((l.length : Int) != (k.length : Int)) = true := by simp; omega
    go_enter Try.func114, Try.ntmps114
    go_wp2_with fail
    go_ret
    exact ⟨ret_bool (by symm; rw [decide_eq_false_iff_not]; rintro rfl; exact hlen rfl), H⟩
/-- Two messages' numbers, name and lists are the same. -/
def Ms.nums (m : Ms) : List Int := [m.kind, m.from_, m.to_, m.ballot, m.attempt, m.epoch, m.mark, m.size, m.what]
def msSame (m x : Ms) : Bool := decide (m.nums = x.nums) && decide (m.name = x.name) && decide (m.who = x.who) && decide (m.names = x.names) && decide (m.data = x.data)
theorem msSame_no1 {m x : Ms} (h : ¬ m.nums = x.nums) : false = msSame m x := by simp [msSame, h]
theorem msSame_yes {m x : Ms} (h1 : m.nums = x.nums) (h2 : m.name = x.name) (h3 : m.who = x.who) (h4 : m.names = x.names) {l k : List UInt8} (hl : l = m.data) (hk : k = x.data) : decide (l = k) = msSame m x := by subst hl hk; simp [msSame, h1, h2, h3, h4]
theorem same25_spec {w : World} {R : Snap} {L : Asrt} (m x : Ms) (H : Holds w R L) (hm : m.Rd R.cell?) (hz : m.Sz) (hx : x.Rd R.cell?) (hzx : x.Sz) :
    Calls Try.prog 41 #[.agg m.cells.toArray, .agg x.cells.toArray] w fun e w' => e = .returned (.bool (msSame m x)) ∧ Holds w' R L := by
  obtain ⟨y, hy⟩ : ∃ y, y = msSame m x := ⟨_, rfl⟩
  rw [← hy]
  obtain ⟨kind, from_, to_, ballot, name, attempt, epoch, mark, size, what, vw, vn, vd, who, names, data⟩ := m
  obtain ⟨kind', from', to', ballot', name', attempt', epoch', mark', size', what', vw', vn', vd', who', names', data'⟩ := x
  obtain ⟨hw, hn, hd⟩ := hm
  obtain ⟨hw', hn', hd'⟩ := hx
  obtain ⟨z1, z2, z3, z4, z5⟩ := hz
  obtain ⟨y1, y2, y3, y4, y5⟩ := hzx
  simp only at z1 z2 z3 z4 z5 y1 y2 y3 y4 y5 hw hn hd hw' hn' hd'
  obtain ⟨aw, cw, rfl⟩ := hw.form
  obtain ⟨an, cn, rfl⟩ := hn.form
  obtain ⟨ad, cd, rfl⟩ := hd.form
  obtain ⟨aw', cw', rfl⟩ := hw'.form
  obtain ⟨an', cn', rfl⟩ := hn'.form
  obtain ⟨ad', cd', rfl⟩ := hd'.form
  obtain ⟨R1, le1, H1, hb⟩ := H.allocR (.cells #[.int .i64 kind, .int .i64 from_, .int .i64 to_, .int .i64 ballot, .string name, .int .i64 attempt, .int .i64 epoch, .int .i64 mark, .int .i64 size, .int .i64 what, .slice aw who.length cw, .slice an names.length cn, .slice ad data.length cd] tMsg (0, 0))
  obtain ⟨R2, le2, H2, hb2⟩ := H1.allocR (.cells #[.int .i64 kind', .int .i64 from', .int .i64 to', .int .i64 ballot', .string name', .int .i64 attempt', .int .i64 epoch', .int .i64 mark', .int .i64 size', .int .i64 what', .slice aw' who'.length cw', .slice an' names'.length cn', .slice ad' data'.length cd'] tMsg (0, 0))
  simp only [World.size_alloc] at hb2
  have hb1 := le2.blk _ _ hb
  have le := le1.trans le2
  have HY := Hid.mk' hy
  have HW := Hid.mk' (Rd.le hw le)
  have HN := Hid.mk' (Rd.le hn le)
  have HD := Hid.mk' (Rd.le hd le)
  have HW' := Hid.mk' (Rd.le hw' le)
  have HN' := Hid.mk' (Rd.le hn' le)
  have HD' := Hid.mk' (Rd.le hd' le)
  have H3 := (H2.alloc #[.int .i64 kind, .int .i64 from_, .int .i64 to_, .int .i64 ballot, .int .i64 attempt, .int .i64 epoch, .int .i64 mark, .int .i64 size, .int .i64 what] tInt).alloc #[.int .i64 kind', .int .i64 from', .int .i64 to', .int .i64 ballot', .int .i64 attempt', .int .i64 epoch', .int .i64 mark', .int .i64 size', .int .i64 what'] tInt
  simp only [World.size_alloc] at H3
  show Calls _ _ #[.agg #[.int .i64 kind, .int .i64 from_, .int .i64 to_, .int .i64 ballot, .string name, .int .i64 attempt, .int .i64 epoch, .int .i64 mark, .int .i64 size, .int .i64 what, .slice aw who.length cw, .slice an names.length cn, .slice ad data.length cd], .agg #[.int .i64 kind', .int .i64 from', .int .i64 to', .int .i64 ballot', .string name', .int .i64 attempt', .int .i64 epoch', .int .i64 mark', .int .i64 size', .int .i64 what', .slice aw' who'.length cw', .slice an' names'.length cn', .slice ad' data'.length cd']] _ _
  clear hw hn hd hw' hn' hd' hy hb H H1
  go_enter Try.func41, Try.ntmps41
  go_wp2_with fail
  generalize hg : w.heap.size = g at *
  clear hg
  refine (sameInts_spec (l := [kind, from_, to_, ballot, attempt, epoch, mark, size, what]) (k := [kind', from', to', ballot', attempt', epoch', mark', size', what']) H3 (fun w' h => (h.drop.toRow 1 9 9 (Nat.le_refl _) (by decide) rfl).rowRd) (fun w' h => (h.toRow 1 9 9 (Nat.le_refl _) (by decide) rfl).rowRd) (by simp) (by simp)).mono ?_
  rintro e w4 ⟨rfl, H4⟩
  replace H4 := H4.drop.drop
  clear H3 H2
  obtain ⟨l4, n4, c4⟩ := Holds.frzFacts (H4) hb1
  obtain ⟨l5, n5, c5⟩ := Holds.frzFacts (H4) hb2
  by_cases q1 : [kind, from_, to_, ballot, attempt, epoch, mark, size, what] = [kind', from', to', ballot', attempt', epoch', mark', size', what']
  case neg =>
    rw [decide_eq_false q1]
    have Q1 := Hid.mk' q1
    clear q1
    go_wp2_with fail
    go_ret
    exact ⟨ret_bool (by rw [HY.out]; exact msSame_no1 Q1.out), H4.weaken le⟩
  rw [decide_eq_true q1]
  have Q1 := Hid.mk' q1
  clear q1
  have es := strEq name name'
  by_cases q2 : name = name'
  case neg =>
    rw [decide_eq_false q2] at es
    have Q2 := Hid.mk' q2
    clear q2
    go_wp2_with fail
    go_ret
    exact ⟨ret_bool (by rw [HY.out, msSame]; simp only [decide_eq_false Q2.out, Bool.false_and, Bool.and_false]), H4.weaken le⟩
  rw [decide_eq_true q2] at es
  have Q2 := Hid.mk' q2
  clear q2
  go_wp2_with fail
  refine (sameInts_spec H4 (fun w' h => Rd.world HW.out h) (fun w' h => Rd.world HW'.out h) z3 y3).mono ?_
  rintro e w6 ⟨rfl, H6⟩
  clear H4 l4 n4 c4 l5 n5 c5
  obtain ⟨l4, n4, c4⟩ := Holds.frzFacts (H6) hb1
  obtain ⟨l5, n5, c5⟩ := Holds.frzFacts (H6) hb2
  by_cases q3 : who = who'
  case neg =>
    rw [decide_eq_false q3]
    have Q3 := Hid.mk' q3
    clear q3
    go_wp2_with fail
    go_ret
    exact ⟨ret_bool (by rw [HY.out, msSame]; simp only [decide_eq_false Q3.out, Bool.false_and, Bool.and_false]), H6.weaken le⟩
  rw [decide_eq_true q3]
  have Q3 := Hid.mk' q3
  clear q3
  go_wp2_with fail
  refine (sameStrs_spec H6 (fun w' h => Rd.world HN.out h) (fun w' h => Rd.world HN'.out h) z4 y4).mono ?_
  rintro e w7 ⟨rfl, H7⟩
  clear H6 l4 n4 c4 l5 n5 c5
  obtain ⟨l4, n4, c4⟩ := Holds.frzFacts (H7) hb1
  obtain ⟨l5, n5, c5⟩ := Holds.frzFacts (H7) hb2
  by_cases q4 : names = names'
  case neg =>
    rw [decide_eq_false q4]
    have Q4 := Hid.mk' q4
    clear q4
    go_wp2_with fail
    go_ret
    exact ⟨ret_bool (by rw [HY.out, msSame]; simp only [decide_eq_false Q4.out, Bool.false_and, Bool.and_false]), H7.weaken le⟩
  rw [decide_eq_true q4]
  have Q4 := Hid.mk' q4
  clear q4
  go_wp2_with fail
  refine (same_spec (Rd.world HD.out H7) (Rd.world HD'.out H7) z5 y5).mono ?_
  rintro e w8 ⟨rfl, q, rfl⟩
  go_wp2_with fail
  go_ret
  exact ⟨ret_bool (by rw [HY.out]; refine msSame_yes ?_ ?_ ?_ ?_ ?_ ?_; exact Q1.out; exact Q2.out; exact Q3.out; exact Q4.out; rfl; rfl), (H7.drewN q).weaken le⟩
end Sh
