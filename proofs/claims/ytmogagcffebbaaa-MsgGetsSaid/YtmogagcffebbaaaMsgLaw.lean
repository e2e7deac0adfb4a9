/- Messages' laws: what all of them use. -/
import Derived.Test.YtmogagcffebbaaaMsgGot
import Derived.Test.YtmogagcffebbaaaMsgEq
import Derived.Test.YtmogagcffebbaaaMsgAll
set_option linter.unusedVariables false
set_option linter.unusedSimpArgs false
namespace Sh
open Go Go.RowKit Go.Proofs
attribute [local go_sem ↓] Go.wp_at_zero Go.wp_at_succ
set_option maxHeartbeats 1000000
set_option maxRecDepth 100000

theorem read_put {m : Ms} (h : msgOk m = true) : readOk (bodyB m) = true := by
  obtain ⟨h1, h2, h3⟩ := parse_back h
  unfold readOk
  rw [h1, h2, msgOk_con h3, h]
  rfl
theorem got_put {m : Ms} (h : msgOk m = true) : getCode (putM m) = 0 ∧ (getMs (putM m)).con = m.con := by
  have hg : goodB (putM m) = true := goodB_seal _
  have ht : (putM m).take ((putM m).length - 4) = bodyB m := sealB_take _
  constructor
  · rw [getCode, if_pos hg, ht, if_pos (read_put h)]
  · rw [getMs, if_pos hg, ht, if_pos (read_put h)]
    exact (parse_back h).2.2
theorem put_len {m : Ms} (h : msgOk m = true) : (putM m).length ≤ 1000000 := by
  have h1 := body_len h
  have h2 : (putM m).length = (bodyB m).length + 4 := sealB_len _
  omega
abbrev ms25 : Ms := ⟨1, 0, 3, 5, ⟨#[]⟩, 0, 0, 0, 0, 0, .slice none 0 0, .slice none 0 0, .slice none 0 0, [], [], []⟩
theorem ms25_ok : msgOk ms25 = true := by decide
theorem ms25_len : (putM ms25).length = 33 := by decide
theorem ms25_Sz : ms25.Sz := ⟨by decide, by simp, Nat.zero_le _, Nat.zero_le _, Nat.zero_le _⟩
theorem ms25_Rd (c : Addr → Option Value) : ms25.Rd c := ⟨Rd.nil, Rd.nil, RdB.nil⟩
set_option maxHeartbeats 4000000
theorem alive25 {w : World} {R : Snap} {L : Asrt} (H : Holds w R L) : Calls Try.prog 50 #[] w fun e w' => e = .returned (.bool true) ∧ Holds w' R L := by
  go_enter Try.func50, Try.ntmps50
  go_wp2_with fail
  refine (new_crc H).mono ?_
  rintro e w1 ⟨p, rfl, H1⟩
  obtain ⟨R1, le1, H2, hT⟩ := H1.freezeBlk
  clear H1
  obtain ⟨R2, le2, H3, hb2⟩ := H2.allocR (.cells ms25.cells.toArray tMsg (0, 0))
  have hT2 := le2.blk _ _ hT
  go_upto_region 3 with fail
  replace H3 : Holds (w1.alloc (.cells #[.int .i64 1, .int .i64 0, .int .i64 3, .int .i64 5, .string ⟨#[]⟩, .int .i64 0, .int .i64 0, .int .i64 0, .int .i64 0, .int .i64 0, .slice none 0 0, .slice none 0 0, .slice none 0 0] tMsg)) R2 L := H3
  replace hb2 : R2.blk w1.heap.size = some (.cells #[.int .i64 1, .int .i64 0, .int .i64 3, .int .i64 5, .string ⟨#[]⟩, .int .i64 0, .int .i64 0, .int .i64 0, .int .i64 0, .int .i64 0, .slice none 0 0, .slice none 0 0, .slice none 0 0] tMsg (0, 0)) := hb2
  generalize (World.alloc ..) = w3 at H3 ⊢
  generalize w1.heap.size = g2 at hb2 ⊢
  clear hT H2
  obtain ⟨l3, n3, c3⟩ := Holds.frzFacts (H3) hb2
  go_wp2_with fail
  refine (mput_ok ms25 H3 hT2 (ms25_Rd _) ms25_Sz ms25_ok).mono ?_
  rintro e w4 ⟨o4, rfl, H4⟩
  obtain ⟨R5, le5, H5, hr5⟩ := H4.freezeRow
  have hT5 := le5.blk _ _ hT2
  have hb5 := le5.blk _ _ hb2
  clear H3 H4 hT2 hb2 l3 n3 c3
  obtain ⟨a4, c4, rfl⟩ := hr5.form
  rw [ms25_len] at hr5 ⊢
  go_wp2_with fail
  refine (mget_spec H5 hT5 hr5 (put_len ms25_ok)).mono ?_
  rintro e w6 ⟨R6, le6, M, rfl, hc, hMr, hMz, H6⟩
  rw [(got_put ms25_ok).1]
  have HC := Hid.mk' (hc.trans (got_put ms25_ok).2)
  have HMR := Hid.mk' hMr
  have HMZ := Hid.mk' hMz
  have hb6 := le6.blk _ _ hb5
  clear H5 hr5 hb5 hT5 hc hMz
  obtain ⟨kind, from_, to_, ballot, name, attempt, epoch, mark, size, what, vw, vn, vd, who, names, data⟩ := M
  obtain ⟨hw, hn, hd⟩ := hMr
  simp only at hw hn hd
  obtain ⟨aw, cw, rfl⟩ := hw.form
  obtain ⟨an, cn, rfl⟩ := hn.form
  obtain ⟨ad, cd, rfl⟩ := hd.form
  clear hw hn hd
  obtain ⟨R7, le7, H7, hb7⟩ := H6.allocR (.cells #[.int .i64 kind, .int .i64 from_, .int .i64 to_, .int .i64 ballot, .string name, .int .i64 attempt, .int .i64 epoch, .int .i64 mark, .int .i64 size, .int .i64 what, .slice aw who.length cw, .slice an names.length cn, .slice ad data.length cd] tMsg (0, 0))
  have hb2 := le7.blk _ _ hb6
  go_upto_region 5 with fail
  generalize (World.alloc ..) = w7 at H7 ⊢
  generalize w6.heap.size = g7 at hb7 ⊢
  clear H6 hb6
  obtain ⟨l2, n2, c2⟩ := Holds.frzFacts (H7) hb2
  go_wp2_with fail
  refine (msize_spec ms25 H7 (ms25_Rd _) ms25_Sz).mono ?_
  rintro e w8 ⟨rfl, H8⟩
  rw [if_pos ms25_ok, ms25_len]
  clear H7 l2 n2 c2
  obtain ⟨l2, n2, c2⟩ := Holds.frzFacts (H8) hb2
  obtain ⟨l7, n7, c7⟩ := Holds.frzFacts (H8) hb7
  go_wp2_with fail
  refine (msame_spec (⟨kind, from_, to_, ballot, name, attempt, epoch, mark, size, what, .slice aw who.length cw, .slice an names.length cn, .slice ad data.length cd, who, names, data⟩ : Ms) ms25 H8 (HMR.out.le le7) HMZ.out (ms25_Rd _) ms25_Sz).mono ?_
  rintro e w9 ⟨rfl, H9⟩
  rw [msSame_con HC.out]
  go_wp2_with fail
  go_ret
  exact ⟨rfl, H9.weaken ((((le1.trans le2).trans le5).trans le6).trans le7)⟩
end Sh
