/- sherdref25.SameAll, where all are the same. -/
import Derived.Test.YtmogagcffebbaaaMsgSame
import Derived.Test.YtmogagcffebbaaaBag
set_option linter.unusedVariables false
set_option linter.unusedSimpArgs false
namespace Sh
open Go Go.RowKit Go.Proofs
attribute [local go_sem ↓] Go.wp_at_zero Go.wp_at_succ
set_option maxHeartbeats 1000000
set_option maxRecDepth 100000

theorem msSame_con {m x : Ms} (h : m.con = x.con) : msSame m x = true := by
  simp only [Ms.con, Prod.mk.injEq, List.cons.injEq, and_true] at h
  obtain ⟨⟨h1, h2, h3, h4, h5, h6, h7, h8, h9⟩, h10, h11, h12, h13⟩ := h
  simp [msSame, Ms.nums, h1, h2, h3, h4, h5, h6, h7, h8, h9, h10, h11, h12, h13]
theorem msSame_of {m x : Ms} (h : msSame m x = true) : m.con = x.con := by
  simp only [msSame, Ms.nums, Bool.and_eq_true, decide_eq_true_eq, List.cons.injEq, and_true] at h
  obtain ⟨⟨⟨⟨⟨h1, h2, h3, h4, h5, h6, h7, h8, h9⟩, h10⟩, h11⟩, h12⟩, h13⟩ := h
  simp [Ms.con, h1, h2, h3, h4, h5, h6, h7, h8, h9, h10, h11, h12, h13]
theorem sameAll_spec {w : World} {R : Snap} {L : Asrt} {u v : Value} {l k : List Ms} (H : Holds w R L) (hu : Rd R.cell? 13 u l.length (l.flatMap Ms.cells)) (hv : Rd R.cell? 13 v k.length (k.flatMap Ms.cells)) (hl : ∀ m ∈ l, m.Rd R.cell? ∧ m.Sz) (hk : ∀ m ∈ k, m.Rd R.cell? ∧ m.Sz) (hs : l.map Ms.con = k.map Ms.con) (hn : l.length ≤ 100000) :
    Calls Try.prog 45 #[u, v] w fun e w' => e = .returned (.bool true) ∧ Holds w' R L := by
  obtain ⟨a, ca, rfl⟩ := hu.form
  obtain ⟨b, cb, rfl⟩ := hv.form
  have hlen : l.length = k.length := by have := congrArg List.length hs; simpa using this
  obtain ⟨n, hnn⟩ : ∃ n, n = k.length := ⟨_, rfl⟩
  have HL : Hid (l.length = n) := Hid.mk' (by omega)
  have HK : Hid (k.length = n) := Hid.mk' hnn.symm
  have HU := Hid.mk' hu
  have HV := Hid.mk' hv
  have HL2 := Hid.mk' hl
  have HK2 := Hid.mk' hk
  have HS := Hid.mk' hs
  rw [hlen] at hn ⊢
  rw [← hnn] at hn ⊢
  clear hlen hnn hu hv hl hk hs
  go_enter Try.func45, Try.ntmps45
  go_wp2_with fail
  go_loopw [5] (fun i wr => ∃ j : Nat, i = .int .i64 j ∧ j ≤ n ∧ Holds wr R L) (fun i _ => n - (intOf i).toNat)
  case atStart => exact ⟨0, rfl, Nat.zero_le _, H⟩
  case round =>
    clear H
    obtain ⟨j, rfl, hj, H1⟩ := hrel
    by_cases hlt : j < n
    · have hjl : j < l.length := by have := HL.out; omega
      have hjk : j < k.length := by have := HK.out; omega
      obtain ⟨bi, oi, rfl, hxi⟩ := rd_elt (f := Ms.cells) Ms.cells_len HU.out (by decide) hjl
      obtain ⟨bj, oj, rfl, hxj⟩ := rd_elt (f := Ms.cells) Ms.cells_len HV.out (by decide) hjk
      have hm := HL2.out l[j] (List.getElem_mem hjl)
      have hx := HK2.out k[j] (List.getElem_mem hjk)
      have hsm : msSame l[j] k[j] = true := msSame_con (by
        have h := congrArg (fun q => q[j]?) HS.out
        simpa [hjl, hjk] using h)
      generalize l[j] = y at hxi hm hsm
      generalize k[j] = z at hxj hx hsm
      have HM := Hid.mk' hm
      have HX := Hid.mk' hx
      have HSM := Hid.mk' hsm
      obtain ⟨hm1, _⟩ := hm
      obtain ⟨hx1, _⟩ := hx
      clear hsm
      obtain ⟨kind', from', to', ballot', name', attempt', epoch', mark', size', what', vw', vn', vd', who', names', data'⟩ := z
      obtain ⟨hw', hn', hd'⟩ := hx1
      simp only at hw' hn' hd'
      obtain ⟨aw', cw', rfl⟩ := hw'.form
      obtain ⟨an', cn', rfl⟩ := hn'.form
      obtain ⟨ad', cd', rfl⟩ := hd'.form
      obtain ⟨kind, from_, to_, ballot, name, attempt, epoch, mark, size, what, vw, vn, vd, who, names, data⟩ := y
      obtain ⟨hw, hn, hd⟩ := hm1
      simp only at hw hn hd
      obtain ⟨aw, cw, rfl⟩ := hw.form
      obtain ⟨an, cn, rfl⟩ := hn.form
      obtain ⟨ad, cd, rfl⟩ := hd.form
      have m0 : R.cell? ⟨bi, oi + j * 13, none⟩ = some (.int .i64 kind) := hxi 0 _ (by omega) rfl
      have m1 : R.cell? ⟨bi, oi + j * 13 + 1, none⟩ = some (.int .i64 from_) := hxi 1 _ (by omega) rfl
      have m2 : R.cell? ⟨bi, oi + j * 13 + 2, none⟩ = some (.int .i64 to_) := hxi 2 _ (by omega) rfl
      have m3 : R.cell? ⟨bi, oi + j * 13 + 3, none⟩ = some (.int .i64 ballot) := hxi 3 _ (by omega) rfl
      have m4 : R.cell? ⟨bi, oi + j * 13 + 4, none⟩ = some (.string name) := hxi 4 _ (by omega) rfl
      have m5 : R.cell? ⟨bi, oi + j * 13 + 5, none⟩ = some (.int .i64 attempt) := hxi 5 _ (by omega) rfl
      have m6 : R.cell? ⟨bi, oi + j * 13 + 6, none⟩ = some (.int .i64 epoch) := hxi 6 _ (by omega) rfl
      have m7 : R.cell? ⟨bi, oi + j * 13 + 7, none⟩ = some (.int .i64 mark) := hxi 7 _ (by omega) rfl
      have m8 : R.cell? ⟨bi, oi + j * 13 + 8, none⟩ = some (.int .i64 size) := hxi 8 _ (by omega) rfl
      have m9 : R.cell? ⟨bi, oi + j * 13 + 9, none⟩ = some (.int .i64 what) := hxi 9 _ (by omega) rfl
      have m10 : R.cell? ⟨bi, oi + j * 13 + 10, none⟩ = some (.slice aw who.length cw) := hxi 10 _ (by omega) rfl
      have m11 : R.cell? ⟨bi, oi + j * 13 + 11, none⟩ = some (.slice an names.length cn) := hxi 11 _ (by omega) rfl
      have m12 : R.cell? ⟨bi, oi + j * 13 + 12, none⟩ = some (.slice ad data.length cd) := hxi 12 _ (by omega) rfl
      have p0 : R.cell? ⟨bj, oj + j * 13, none⟩ = some (.int .i64 kind') := hxj 0 _ (by omega) rfl
      have p1 : R.cell? ⟨bj, oj + j * 13 + 1, none⟩ = some (.int .i64 from') := hxj 1 _ (by omega) rfl
      have p2 : R.cell? ⟨bj, oj + j * 13 + 2, none⟩ = some (.int .i64 to') := hxj 2 _ (by omega) rfl
      have p3 : R.cell? ⟨bj, oj + j * 13 + 3, none⟩ = some (.int .i64 ballot') := hxj 3 _ (by omega) rfl
      have p4 : R.cell? ⟨bj, oj + j * 13 + 4, none⟩ = some (.string name') := hxj 4 _ (by omega) rfl
      have p5 : R.cell? ⟨bj, oj + j * 13 + 5, none⟩ = some (.int .i64 attempt') := hxj 5 _ (by omega) rfl
      have p6 : R.cell? ⟨bj, oj + j * 13 + 6, none⟩ = some (.int .i64 epoch') := hxj 6 _ (by omega) rfl
      have p7 : R.cell? ⟨bj, oj + j * 13 + 7, none⟩ = some (.int .i64 mark') := hxj 7 _ (by omega) rfl
      have p8 : R.cell? ⟨bj, oj + j * 13 + 8, none⟩ = some (.int .i64 size') := hxj 8 _ (by omega) rfl
      have p9 : R.cell? ⟨bj, oj + j * 13 + 9, none⟩ = some (.int .i64 what') := hxj 9 _ (by omega) rfl
      have p10 : R.cell? ⟨bj, oj + j * 13 + 10, none⟩ = some (.slice aw' who'.length cw') := hxj 10 _ (by omega) rfl
      have p11 : R.cell? ⟨bj, oj + j * 13 + 11, none⟩ = some (.slice an' names'.length cn') := hxj 11 _ (by omega) rfl
      have p12 : R.cell? ⟨bj, oj + j * 13 + 12, none⟩ = some (.slice ad' data'.length cd') := hxj 12 _ (by omega) rfl
      have hbi := Snap.someBlk m0
      have hbj := Snap.someBlk p0
      have ri := fun o => H1.rule bi o hbi
      have rj := fun o => H1.rule bj o hbj
      clear hxi hxj hw hn hd hw' hn' hd'
      go_wp2_with fail
      go_region_held3 (fun w' => (∀ o, w'.cell? ⟨bi, o, none⟩ = R.cell? ⟨bi, o, none⟩) ∧ (∀ o, w'.cell? ⟨bj, o, none⟩ = R.cell? ⟨bj, o, none⟩)) (first | (exact And.intro (fun o => H8.rule bi o hbi) (fun o => H8.rule bj o hbj)) | ((repeat' (first | assumption | (with_reducible refine And.intro ?_ ?_) | (with_reducible refine keep_drew ?_) | (with_reducible refine keep_drewN ?_) | (with_reducible refine keep_alloc ?_ (by first | assumption | (simp only [World.size_alloc, World.size_drew, World.size_setCell]; omega))) | (with_reducible refine keep_set ?_ (by first | assumption | omega))))))
        (first | (go_at_call 41; refine (same25_spec (⟨kind, from_, to_, ballot, name, attempt, epoch, mark, size, what, .slice aw who.length cw, .slice an names.length cn, .slice ad data.length cd, who, names, data⟩ : Ms) ⟨kind', from', to', ballot', name', attempt', epoch', mark', size', what', .slice aw' who'.length cw', .slice an' names'.length cn', .slice ad' data'.length cd', who', names', data'⟩ H1.drew HM.out.1 HM.out.2 HX.out.1 HX.out.2).mono ?_; rintro e w8 ⟨rfl, H8⟩; rw [HSM.out]))
      all_goals
        go_wp2_with fail
        go_roundw
        case rel => exact ⟨j + 1, by go_num, hlt, H8⟩
        case measure => simp [intOf]; omega
    · go_wp2_with fail
      go_ret
      exact ⟨rfl, H1⟩
end Sh
