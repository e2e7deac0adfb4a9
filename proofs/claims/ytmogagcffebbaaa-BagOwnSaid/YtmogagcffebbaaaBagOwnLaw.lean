/- BagOwn: the walk. -/
import Derived.Test.YtmogagcffebbaaaBagAlive
import Derived.Test.YtmogagcffebbaaaMsgRef
import Derived.Test.YtmogagcffebbaaaMsgFar
set_option linter.unusedVariables false
set_option linter.unusedSimpArgs false
namespace Sh
open Go Go.RowKit Go.Proofs
attribute [local go_sem ↓] Go.wp_at_zero Go.wp_at_succ
set_option maxHeartbeats 1000000
set_option maxRecDepth 100000

theorem bput_nil {w : World} {R : Snap} {L : Asrt} (m : Ms) {b : Nat} (H : Holds w R (star (blk b m.cells.toArray tMsg) L)) (hm : ∃ R' : Snap, m.Rd R'.cell?) :
    Calls Try.prog 37 #[.pointer none, .slice (some ⟨b, 0, none⟩) 1 1] w fun e w' => e = .returned (.tuple #[]) ∧ Holds w' R L := by
  obtain ⟨R', hm⟩ := hm
  obtain ⟨kind, from_, to_, ballot, name, attempt, epoch, mark, size, what, vw, vn, vd, who, names, data⟩ := m
  obtain ⟨hw, hn, hd⟩ := hm
  simp only at hw hn hd
  obtain ⟨aw, cw, rfl⟩ := hw.form
  obtain ⟨an, cn, rfl⟩ := hn.form
  obtain ⟨ad, cd, rfl⟩ := hd.form
  clear hw hn hd
  obtain ⟨l1, n1, c1, z1⟩ := Holds.facts (H)
  go_enter Try.func37, Try.ntmps37
  go_wp2_with fail
  go_loopw [8] (fun i wx => (i = .int .i64 0 ∧ w = wx) ∨ (i = .int .i64 1 ∧ Holds wx R L)) (fun i _ => 1 - (intOf i).toNat)
  case atStart => exact .inl ⟨rfl, rfl⟩
  case round =>
    rcases hrel with ⟨rfl, rfl⟩ | ⟨rfl, H1⟩
    · go_wp2_with fail
      go_roundw
      case rel => exact .inr ⟨rfl, H.drop.garbage _⟩
      case measure => simp [intOf]
    · clear H l1 n1 c1 z1
      go_wp2_with fail
      go_end0
      exact ⟨rfl, H1⟩
theorem bagOwn_walk (W : World) {m : Ms} (hm : m.Rd W.cell? ∧ m.name.size ≤ maxLen ∧ ∀ s ∈ m.names, s.size ≤ maxLen) :
    Calls Try.prog 8 #[.agg m.cells.toArray] W fun e w' => e = .returned (.bool true) ∧ Below W.heap.size W w' := by
  obtain ⟨hm, hz1, hz2⟩ := hm
  have HM0 : Hid (m.Rd (Snap.of W).cell?) := Hid.mk' hm
  have HZ := Hid.mk' (And.intro hz1 hz2)
  obtain ⟨kind, from_, to_, ballot, name, attempt, epoch, mark, size, what, vw, vn, vd, who, names, data⟩ := m
  obtain ⟨hw, hn, hd⟩ := hm
  simp only at hw hn hd
  obtain ⟨aw, cw, rfl⟩ := hw.form
  obtain ⟨an, cn, rfl⟩ := hn.form
  obtain ⟨ad, cd, rfl⟩ := hd.form
  clear hz1 hz2 hw hn hd
  show Calls _ _ #[.agg #[.int .i64 kind, .int .i64 from_, .int .i64 to_, .int .i64 ballot, .string name, .int .i64 attempt, .int .i64 epoch, .int .i64 mark, .int .i64 size, .int .i64 what, .slice aw who.length cw, .slice an names.length cn, .slice ad data.length cd]] _ _
  obtain ⟨R1, le1, H1, hb1⟩ := (Holds.start W).allocR (.cells #[.int .i64 kind, .int .i64 from_, .int .i64 to_, .int .i64 ballot, .string name, .int .i64 attempt, .int .i64 epoch, .int .i64 mark, .int .i64 size, .int .i64 what, .slice aw who.length cw, .slice an names.length cn, .slice ad data.length cd] tMsg (0, 0))
  have HM := Hid.mk' (HM0.out.le le1)
  obtain ⟨l1, n1, c1⟩ := Holds.frzFacts (H1) hb1
  go_enter Try.func8, Try.ntmps8
  go_wp2_with fail
  generalize (World.alloc ..) = w1 at H1 l1 n1 c1 ⊢
  generalize hg : W.heap.size = g at hb1 l1 n1 c1 ⊢
  refine (far25_spec (⟨kind, from_, to_, ballot, name, attempt, epoch, mark, size, what, .slice aw who.length cw, .slice an names.length cn, .slice ad data.length cd, who, names, data⟩ : Ms) H1 HM.out HZ.out.1 HZ.out.2).mono ?_
  rintro e w5 ⟨b, rfl, hsm, H5⟩
  clear H1 l1 n1 c1
  cases b with
  | true =>
    go_wp2_with fail
    refine (alive44 H5).mono ?_
    rintro e w6 ⟨rfl, H6⟩
    go_wp2_with fail
    go_ret
    exact ⟨rfl, hg ▸ H6.toBelow le1⟩
  | false =>
  have HSZ : Hid (Ms.Sz (⟨kind, from_, to_, ballot, name, attempt, epoch, mark, size, what, .slice aw who.length cw, .slice an names.length cn, .slice ad data.length cd, who, names, data⟩ : Ms)) := Hid.mk' ((hsm rfl).Sz HZ.out.1 HZ.out.2)
  clear hsm
  obtain ⟨l5, n5, c5⟩ := Holds.frzFacts (H5) hb1
  go_wp2_with fail
  refine (rright25_spec (⟨kind, from_, to_, ballot, name, attempt, epoch, mark, size, what, .slice aw who.length cw, .slice an names.length cn, .slice ad data.length cd, who, names, data⟩ : Ms) H5 HM.out HSZ.out).mono ?_
  rintro e w6 ⟨rfl, H6⟩
  clear H5 l5 n5 c5
  cases hok : msgOk (⟨kind, from_, to_, ballot, name, attempt, epoch, mark, size, what, .slice aw who.length cw, .slice an names.length cn, .slice ad data.length cd, who, names, data⟩ : Ms) with
  | false =>
    go_wp2_with fail
    refine (alive44 H6).mono ?_
    rintro e w7 ⟨rfl, H7⟩
    go_wp2_with fail
    go_ret
    exact ⟨rfl, hg ▸ H7.toBelow le1⟩
  | true =>
  have HOK := Hid.mk' hok
  clear hok
  obtain ⟨l6, n6, c6⟩ := Holds.frzFacts (H6) hb1
  by_cases h0 : data.length = 0
  · have t0 : ((data.length : Int) == 0) = true := by simp [h0]
    have H0 := Hid.mk' h0
    clear h0
    go_wp2_with fail
    refine (alive44 H6).mono ?_
    rintro e w7 ⟨rfl, H7⟩
    go_wp2_with fail
    go_ret
    exact ⟨rfl, hg ▸ H7.toBelow le1⟩
  have t0 : ((data.length : Int) == 0) = false := by rw [beq_eq_false_iff_ne]; omega
  have hpos : 0 < data.length := by omega
  have hd9 : data.length ≤ 1000000 := HSZ.out.2.2.2.2
  go_wp2_with (with_reducible refine stop_append ?_)
  have H7 := freshB H6
  refine Hold.go (wpList_appendB rfl _ _ rfl rfl rfl H7 (Rd.world HM.out.2.2 H7) (by simp only [List.length_nil]; omega) ?_)
  intro v8 w8 H8
  rw [List.nil_append] at H8
  obtain ⟨a8, c8, rfl⟩ := H8.rowRd.form
  clear H6 H7 l6 n6 c6 h0
  obtain ⟨l28, n28, c28⟩ := Holds.frzFacts (H8) hb1
  have H9 := (bag_new ((H8.alloc #[.int .i64 kind, .int .i64 from_, .int .i64 to_, .int .i64 ballot, .string name, .int .i64 attempt, .int .i64 epoch, .int .i64 mark, .int .i64 size, .int .i64 what, .slice aw who.length cw, .slice an names.length cn, .slice a8 data.length c8] tMsg))).swap
  simp only [World.size_alloc] at H9
  go_upto_region 7 with fail
  generalize (World.alloc ..) = w9 at H9 ⊢
  generalize w8.heap.size + 1 = p at H9 ⊢
  generalize w8.heap.size = gx at H9 ⊢
  clear H8 l28 n28 c28
  obtain ⟨l29, n29, c29, z29⟩ := Holds.facts (H9)
  have hrow : ∀ {w' : World} {L' : Asrt}, Holds w' R1 (star (rowB (.slice a8 data.length c8) data) L') → Ms.Rd w'.cell? (⟨kind, from_, to_, ballot, name, attempt, epoch, mark, size, what, .slice aw who.length cw, .slice an names.length cn, .slice a8 data.length c8, who, names, data⟩ : Ms) := fun h => ⟨Rd.world HM.out.1 h, Rd.world HM.out.2.1 h, h.rowRd⟩
  have H10 := H9.alloc #[.int .i64 kind, .int .i64 from_, .int .i64 to_, .int .i64 ballot, .string name, .int .i64 attempt, .int .i64 epoch, .int .i64 mark, .int .i64 size, .int .i64 what, .slice aw who.length cw, .slice an names.length cn, .slice a8 data.length c8] tMsg
  go_wp2_with fail
  refine (bput_spec (k := [(⟨kind, from_, to_, ballot, name, attempt, epoch, mark, size, what, .slice aw who.length cw, .slice an names.length cn, .slice a8 data.length c8, who, names, data⟩ : Ms)]) H10.pick3 (by simp) (fun w' h => (h.toRow 13 1 1 (Nat.le_refl _) (by decide) rfl).rowRd) (fun m hm w' h => by rw [List.mem_singleton] at hm; subst hm; exact hrow h.pick3) (fun m hm => by rw [List.mem_singleton] at hm; subst hm; exact ⟨HSZ.out.1, HSZ.out.2.1, HSZ.out.2.2.1, HSZ.out.2.2.2.1, hd9⟩) (by simp)).mono ?_
  rintro e w11 ⟨rfl, R11, le11, k11, hk11, hc11, H11⟩
  clear H9 H10 l29 n29 c29 z29
  have hok2 : ([(⟨kind, from_, to_, ballot, name, attempt, epoch, mark, size, what, .slice aw who.length cw, .slice an names.length cn, .slice a8 data.length c8, who, names, data⟩ : Ms)] : List Ms).filter msgOk = [(⟨kind, from_, to_, ballot, name, attempt, epoch, mark, size, what, .slice aw who.length cw, .slice an names.length cn, .slice a8 data.length c8, who, names, data⟩ : Ms)] := by
    rw [List.filter_cons, if_pos (by rw [← HOK.out]; exact msgOk_con rfl)]; rfl
  rw [hok2] at hc11
  obtain ⟨mk, rfl⟩ : ∃ mk, k11 = [mk] := by
    have h := congrArg List.length hc11
    simp only [List.length_map, List.length_append, List.length_nil, List.length_singleton] at h
    exact List.length_eq_one_iff.1 (by omega)
  have hcon : mk.con = Ms.con (⟨kind, from_, to_, ballot, name, attempt, epoch, mark, size, what, .slice aw who.length cw, .slice an names.length cn, .slice ad data.length cd, who, names, data⟩ : Ms) := by
    simp only [List.map_cons, List.map_nil, List.nil_append, List.cons.injEq, and_true] at hc11
    rw [hc11]; rfl
  have HCON := Hid.mk' hcon
  have HK11 := Hid.mk' hk11
  have HZK : Hid (∀ m ∈ [mk], m.Sz) := Hid.mk' (fun m hm => by rw [List.mem_singleton] at hm; subst hm; exact Ms.Sz_con HCON.out HSZ.out)
  clear hok2 hc11 hk11 hcon
  have hb11 := le11.blk _ _ hb1
  -- own[0]++
  have H12 := H11.drop2.pick3
  obtain ⟨g8, cg8, hag, hcg, hg8, hcell, hfro⟩ := H12.rowAt (by omega)
  simp only [Value.slice.injEq, true_and] at hag
  obtain ⟨rfl, rfl⟩ := hag
  have i2 : (0 : Int) < (data.length : Int) := by omega
  have e0 := hcell 0 _ (u8s_get data 0 hpos)
  have f0 := hfro 0
  have x0 := u8_lt data[0]
  obtain ⟨data2, hd2⟩ : ∃ data2 : List UInt8, data2 = data.set 0 (UInt8.ofNat (((data[0].toNat : Int) + 1) % 256).toNat) := ⟨_, rfl⟩
  have hl2 : data2.length = data.length := by rw [hd2, List.length_set]
  have HS : Hid (Holds (w11.setCell ⟨g8, 0, none⟩ (.int .u8 (((data[0].toNat : Int) + 1) % 256))) R11 (star (rowB (.slice (some ⟨g8, 0, none⟩) data.length c8) data2) (star (bagA p [mk]) (star (blk gx #[.int .i64 kind, .int .i64 from_, .int .i64 to_, .int .i64 ballot, .string name, .int .i64 attempt, .int .i64 epoch, .int .i64 mark, .int .i64 size, .int .i64 what, .slice aw who.length cw, .slice an names.length cn, .slice (some ⟨g8, 0, none⟩) data.length c8] tMsg) emp)))) := Hid.mk' (by
    have h := row_write H12 0 (((data[0].toNat : Int) + 1) % 256) hpos (by omega)
    rw [← hd2] at h
    show Holds _ R11 (star (row tU8 1 _ data2.length _) _)
    rw [hl2]
    exact h)
  obtain ⟨x8, hx8⟩ : ∃ x8, x8 = data[0] := ⟨_, rfl⟩
  rw [← hx8] at e0 x0 HS
  clear hcell hfro hd2 hx8 H11 H12
  go_wp2_with fail
  generalize hw13 : World.setCell _ _ _ = w13
  have H13 := Holds.at hw13 HS.out
  clear HS e0 f0 x0 hw13 hg8 hcg
  refine (ball_spec H13.swap HK11.out HZK.out (by simp)).mono ?_
  rintro e w14 ⟨R14, le14, v14, M, rfl, hcM, hfM, H14⟩
  clear H13
  obtain ⟨mb, rfl⟩ : ∃ mb, M = [mb] := by
    have h := congrArg List.length hcM
    simp only [List.length_map, List.length_singleton] at h
    exact List.length_eq_one_iff.1 h
  have hcb : mb.con = Ms.con (⟨kind, from_, to_, ballot, name, attempt, epoch, mark, size, what, .slice aw who.length cw, .slice an names.length cn, .slice ad data.length cd, who, names, data⟩ : Ms) := by
    simp only [List.map_cons, List.map_nil, List.cons.injEq, and_true] at hcM
    rw [hcM, HCON.out]
  have hdb : mb.data = data := by have h := hcb; simp only [Ms.con, Prod.mk.injEq] at h; exact h.2.2.2.2
  have hfb := hfM mb (by simp)
  have HB : Holds w14 R14 (star (row tMsg 13 v14 1 mb.cells) (star (rowB mb.vd data) (star (bagA p [mk]) (star (rowB (.slice (some ⟨g8, 0, none⟩) data.length c8) data2) (star (blk gx #[.int .i64 kind, .int .i64 from_, .int .i64 to_, .int .i64 ballot, .string name, .int .i64 attempt, .int .i64 epoch, .int .i64 mark, .int .i64 size, .int .i64 what, .slice aw who.length cw, .slice an names.length cn, .slice (some ⟨g8, 0, none⟩) data.length c8] tMsg) emp))))) := by
    have h := H14
    rw [msData, List.map_cons, List.map_nil, bytesAll_one, hdb, List.flatMap_cons, List.flatMap_nil, List.append_nil] at h
    exact h
  clear H14 hcM hfM hcb
  obtain ⟨mkind, mfrom, mto, mballot, mname, mattempt, mepoch, mmark, msize, mwhat, mvw, mvn, mvd, mwho, mnames, mdata⟩ := mb
  simp only at hdb hfb HB
  subst hdb
  obtain ⟨aw3, cw3, rfl⟩ := hfb.1.form
  obtain ⟨an3, cn3, rfl⟩ := hfb.2.form
  clear hfb
  obtain ⟨gl, cl, rfl, hcl, hgl, hcel, hfrl⟩ := HB.rowAt (by decide)
  obtain ⟨gd, cd3, rfl, hcd, hgd, hced, hfrd⟩ := HB.swap.rowAt hpos
  have d0 := hcel 12 _ rfl
  have e1 := hced 0 _ (u8s_get mdata 0 hpos)
  have f1 := hfrd 0
  have x1 := u8_lt mdata[0]
  have HS2 := Hid.mk' (fun u => (HB.swap.rowSet (t := tU8) 0 u (by omega)).drop.drop)
  obtain ⟨y1, hy1⟩ : ∃ y1, y1 = mdata[0] := ⟨_, rfl⟩
  rw [← hy1] at e1 x1
  clear hcel hfrl hced hfrd hy1 HB hcl hcd
  go_upto_region 13 with fail
  generalize hw15 : World.setCell _ _ _ = w15
  have H15 := Holds.at hw15 (HS2.out _)
  clear hw15 HS2 d0 e1 f1 x1 hgl hgd
  obtain ⟨l35, n35, c35, z35⟩ := Holds.facts (H15.pick3)
  have hd9 : data2.length ≤ 1000000 := by omega
  go_wp2_with fail
  refine (bhead_spec (⟨kind, from_, to_, ballot, name, attempt, epoch, mark, size, what, .slice aw who.length cw, .slice an names.length cn, .slice (some ⟨g8, 0, none⟩) mdata.length c8, who, names, data2⟩ : Ms) H15 (fun w' h => ⟨(Rd.world (Rd.le HM.out.1 (le11.trans le14)) h), (Rd.world (Rd.le HM.out.2.1 (le11.trans le14)) h), h.swap.rowRd⟩) ⟨HSZ.out.1, HSZ.out.2.1, HSZ.out.2.2.1, HSZ.out.2.2.2.1, hd9⟩).mono ?_
  rintro e w16 ⟨R16, le16, vw16, _, vn16, _, vd16, _, rfl, H16⟩
  clear H15 l35 n35 c35 z35
  have hk16 := Hid.mk' (fun m hm => (HK11.out m hm).le (le14.trans le16))
  go_wp2_with fail
  refine (btake_some (i := 0) (m := mk) H16 hk16.out rfl (by simp)).mono ?_
  rintro e w17 ⟨rfl, H17⟩
  clear H16
  have hkd : mk.data = mdata := by have h := HCON.out; simp only [Ms.con, Prod.mk.injEq] at h; exact h.2.2.2.2
  have hmk := hk16.out mk (by simp)
  have hb17 := ((le11.trans le14).trans le16).blk _ _ hb1
  have hdR := Hid.mk' (Rd.le HM.out.2.2 ((le11.trans le14).trans le16))
  have leF := Hid.mk' (le1.trans ((le11.trans le14).trans le16))
  have hmn : Hid (∃ R' : Snap, Ms.Rd R'.cell? ⟨kind, from_, to_, ballot, name, attempt, epoch, mark, size, what, .slice aw who.length cw, .slice an names.length cn, .slice ad mdata.length cd, who, names, mdata⟩) := Hid.mk' ⟨R1, HM.out⟩
  clear HK11 HZK hk16 HCON
  obtain ⟨kind', from', to', ballot', name', attempt', epoch', mark', size', what', vw', vn', vd', who', names', data'⟩ := mk
  simp only at hkd
  subst hkd
  obtain ⟨hw', hn', hd'⟩ := hmk
  simp only at hw' hn' hd'
  obtain ⟨aw', cw', rfl⟩ := hw'.form
  obtain ⟨an', cn', rfl⟩ := hn'.form
  obtain ⟨ad', cd', rfl⟩ := hd'.form
  have HD' := Hid.mk' hd'
  have H18 := H17.alloc #[.int .i64 kind', .int .i64 from', .int .i64 to', .int .i64 ballot', .string name', .int .i64 attempt', .int .i64 epoch', .int .i64 mark', .int .i64 size', .int .i64 what', .slice aw' who'.length cw', .slice an' names'.length cn', .slice ad' data'.length cd'] tMsg
  have H19 := H18.alloc #[.int .i64 kind, .int .i64 from_, .int .i64 to_, .int .i64 ballot, .string name, .int .i64 attempt, .int .i64 epoch, .int .i64 mark, .int .i64 size, .int .i64 what, .slice aw who.length cw, .slice an names.length cn, .slice ad data'.length cd] tMsg
  simp only [World.size_alloc] at H19
  obtain ⟨l37, n37, c37⟩ := Holds.frzFacts (H17) hb17
  clear hw' hn' hd'
  go_wp2_with fail
  refine (bput_nil ⟨kind, from_, to_, ballot, name, attempt, epoch, mark, size, what, .slice aw who.length cw, .slice an names.length cn, .slice ad data'.length cd, who, names, data'⟩ H19 hmn.out).mono ?_
  rintro e w20 ⟨rfl, H20⟩
  clear H17 H18 H19 l37 n37 c37
  go_wp2_with fail
  refine (btake_nil H20).mono ?_
  rintro e w21 ⟨rfl, H21⟩
  have H22 := H21.alloc zeroMs tMsg
  obtain ⟨l38, n38, c38, z38⟩ := Holds.facts (H22.swap)
  obtain ⟨l39, n39, c39⟩ := Holds.frzFacts (H22) hb17
  clear H20 H21
  go_wp2_with fail
  refine (same_self (Rd.world HD'.out H22) (Rd.world hdR.out H22) hd9).mono ?_
  rintro e w23 ⟨rfl, q, rfl⟩
  have H23 := H22.drewN q
  go_wp2_with fail
  refine (bdouble_nil H23).mono ?_
  rintro e w24 ⟨rfl, H24⟩
  go_wp2_with fail
  refine blen_nil.mono ?_
  rintro e w25 ⟨rfl, rfl⟩
  go_wp2_with fail
  refine ball_nil.mono ?_
  rintro e w25 ⟨rfl, rfl⟩
  go_wp2_with fail
  refine (alive44 H24).mono ?_
  rintro e w26 ⟨rfl, H26⟩
  go_wp2_with fail
  go_ret
  exact ⟨rfl, hg ▸ H26.toBelow leF.out⟩
end Sh
