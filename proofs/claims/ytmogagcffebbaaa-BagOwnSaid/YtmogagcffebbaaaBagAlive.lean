/- sherdlaw44.alive. -/
import Derived.Test.YtmogagcffebbaaaBagFrz
set_option linter.unusedVariables false
set_option linter.unusedSimpArgs false
namespace Sh
open Go Go.RowKit Go.Proofs
attribute [local go_sem ↓] Go.wp_at_zero Go.wp_at_succ
set_option maxHeartbeats 1000000
set_option maxRecDepth 100000

@[go_sem] theorem fldMsg12 (w : World) (kind from_ to_ ballot : Int) (name : ByteArray) (attempt epoch mark size what : Int) (a b c : Value) : (Instr.field 63 (.agg #[.int .i64 kind, .int .i64 from_, .int .i64 to_, .int .i64 ballot, .string name, .int .i64 attempt, .int .i64 epoch, .int .i64 mark, .int .i64 size, .int .i64 what, a, b, c]) 12).run Try.prog w = .ok c w := by kernel_rfl
@[go_sem] theorem Ms.headLit (kind from_ to_ ballot : Int) (name : ByteArray) (attempt epoch mark size what : Int) (vw vn vd : Value) (who : List Int) (names : List ByteArray) (data : List UInt8) (a b c : Value) : Ms.head ⟨kind, from_, to_, ballot, name, attempt, epoch, mark, size, what, vw, vn, vd, who, names, data⟩ a b c = ⟨kind, from_, to_, ballot, name, attempt, epoch, mark, size, what, a, b, c, who, names, List.replicate data.length 0⟩ := rfl
def msX : Ms := ⟨1, 0, 1, 3, ⟨#[]⟩, 0, 0, 0, 0, 0, .slice none 0 0, .slice none 0 0, .slice none 0 0, [], [], []⟩
def msY (v : Value) : Ms := ⟨1, 0, 2, 4, ⟨#[]⟩, 0, 0, 0, 0, 0, .slice none 0 0, .slice none 0 0, v, [], [], [5]⟩
@[go_sem] theorem msY_lit (v a b c : Value) : (Ms.head (msY v) a b c).cells.toArray = #[.int .i64 1, .int .i64 0, .int .i64 2, .int .i64 4, .string ⟨#[]⟩, .int .i64 0, .int .i64 0, .int .i64 0, .int .i64 0, .int .i64 0, a, b, c] := rfl
theorem msX_ok : msgOk msX = true := by decide
theorem msY_ok (v : Value) : msgOk (msY v) = true := rfl
set_option maxHeartbeats 40000000
theorem alive44 {w : World} {R : Snap} {L : Asrt} (H : Holds w R L) :
    Calls Try.prog 35 #[] w fun e w' => e = .returned (.bool true) ∧ Holds w' R L := by
  have H1 := bag_new H
  clear H
  go_enter Try.func35, Try.ntmps35
  go_upto_region 2 with fail
  generalize (World.alloc ..) = w1 at H1 ⊢
  generalize w.heap.size = p at H1 ⊢
  obtain ⟨R2, le2, H2, hb2⟩ := H1.allocR (.cells #[.int .u8 5] tU8 (0, 0))
  obtain ⟨R3, le3, H3, hb3⟩ := H2.allocR (.cells #[.int .i64 1, .int .i64 0, .int .i64 1, .int .i64 3, .string ⟨#[]⟩, .int .i64 0, .int .i64 0, .int .i64 0, .int .i64 0, .int .i64 0, .slice none 0 0, .slice none 0 0, .slice none 0 0] tMsg (0, 0))
  obtain ⟨R4, le4, H4, hb4⟩ := H3.allocR (.cells #[.int .i64 1, .int .i64 0, .int .i64 2, .int .i64 4, .string ⟨#[]⟩, .int .i64 0, .int .i64 0, .int .i64 0, .int .i64 0, .int .i64 0, .slice none 0 0, .slice none 0 0, .slice (some ⟨w1.heap.size, 0, none⟩) 1 1] tMsg (0, 0))
  simp only [World.size_alloc] at hb3 hb4
  have hr5 := frzRdB (n := 1) (c := 1) (le4.blk _ _ (le3.blk _ _ hb2)) [5] rfl rfl (Nat.le_refl _) (by decide)
  go_upto_region 3 with fail
  generalize (World.alloc ..) = w4 at H4 ⊢
  generalize w1.heap.size + 1 + 1 = g3 at *
  generalize w1.heap.size + 1 = g2 at *
  generalize w1.heap.size = g1 at *
  clear H3 H2 H1
  have hb3' := le4.blk _ _ hb3
  obtain ⟨l1, n1, c1⟩ := Holds.frzFacts (H4) hb3'
  obtain ⟨l2, n2, c2⟩ := Holds.frzFacts (H4) hb4
  have hy : (msY (.slice (some ⟨g1, 0, none⟩) 1 1)).Rd R4.cell? := ⟨Rd.nil, Rd.nil, hr5⟩
  have hx : ∀ c, msX.Rd c := fun c => ⟨Rd.nil, Rd.nil, RdB.nil⟩
  have zx : msX.Sz := ⟨by decide, by simp [msX], by decide, by decide, by decide⟩
  have zy : ∀ v, (msY v).Sz := fun v => ⟨by show (⟨#[]⟩ : ByteArray).size ≤ maxLen; decide, by simp [msY], Nat.zero_le _, Nat.zero_le _, by show 1 ≤ 1000000; decide⟩
  have H5 := (H4.alloc (msX.cells ++ (msY (.slice (some ⟨g1, 0, none⟩) 1 1)).cells).toArray tMsg).swap
  have HB := Hid.mk' hb4
  have HB3 := Hid.mk' hb3'
  go_wp2_with fail
  refine (bput_spec (k := [msX, msY (.slice (some ⟨g1, 0, none⟩) 1 1)]) H5 (by simp) (fun w' h => (h.toRow 13 2 2 (Nat.le_refl _) (by decide) rfl).rowRd) (fun m hm w' h => ?_) (fun m hm => ?_) (by show 0 + 2 ≤ 1000000; omega)).mono ?_
  · simp only [List.mem_cons, List.not_mem_nil, or_false] at hm
    rcases hm with rfl | rfl
    · exact hx _
    · exact hy.world h
  · simp only [List.mem_cons, List.not_mem_nil, or_false] at hm
    rcases hm with rfl | rfl
    · exact zx
    · exact zy _
  rintro e w6 ⟨rfl, R6, le6, l6, hl6, hc6, H6⟩
  clear H4 H5 l1 n1 c1 l2 n2 c2
  have hc6 : l6.map Ms.con = [msX.con, (msY (.slice none 0 0)).con] := by
    rw [hc6]; rfl
  obtain ⟨mx, my, rfl⟩ := two_of (show l6.length = 2 by have h := congrArg List.length hc6; rw [List.length_map] at h; exact h)
  simp only [List.map_cons, List.map_nil, List.cons.injEq, and_true] at hc6
  obtain ⟨q1, q2⟩ := hc6
  have zall : ∀ m ∈ [mx, my], m.Sz := by
    intro m hm
    simp only [List.mem_cons, List.not_mem_nil, or_false] at hm
    rcases hm with rfl | rfl
    · exact Ms.Sz_con q1 zx
    · exact Ms.Sz_con q2 (zy _)
  have Hl6 := Hid.mk' hl6
  clear hl6
  go_wp2_with fail
  refine (bdouble_some (i := 0) H6.drop2 Hl6.out zall rfl (by simp)).mono ?_
  rintro e w7 ⟨rfl, R7, le7, l7, hl7, hc7, H7⟩
  clear H6
  have hok : [mx].filter msgOk = [mx] := by
    rw [List.filter_cons, if_pos (by rw [msgOk_con q1]; exact msX_ok)]; rfl
  rw [hok] at hc7
  obtain ⟨mx1, my1, mz1, rfl⟩ := three_of (show l7.length = 3 by have h := congrArg List.length hc7; rw [List.length_map] at h; exact h)
  simp only [List.map_cons, List.map_nil, List.cons_append, List.nil_append, List.cons.injEq, and_true] at hc7
  obtain ⟨q3, q4, q5⟩ := hc7
  rw [q1] at q3 q5
  rw [q2] at q4
  have Hl7 := Hid.mk' hl7
  clear hl7 hok
  go_wp2_with fail
  refine (btake_some (i := 0) (m := mx1) H7 Hl7.out rfl (by simp)).mono ?_
  rintro e w8 ⟨rfl, H8⟩
  clear H7
  have hmx := Hl7.out mx1 (by simp)
  have zmx := Ms.Sz_con q3 zx
  have HMX := Hid.mk' hmx
  have HZX := Hid.mk' zmx
  have hsx : msSame mx1 msX = true := msSame_con q3
  obtain ⟨kind, from_, to_, ballot, name, attempt, epoch, mark, size, what, vw, vn, vd, who, names, data⟩ := mx1
  obtain ⟨hw, hn, hd⟩ := hmx
  simp only at hw hn hd
  obtain ⟨aw, cw, rfl⟩ := hw.form
  obtain ⟨an, cn, rfl⟩ := hn.form
  obtain ⟨ad, cd, rfl⟩ := hd.form
  have hl8 : ∀ m ∈ [my1, mz1], m.Rd R7.cell? := fun m hm => Hl7.out m (by simp only [List.mem_cons, List.not_mem_nil, or_false] at hm ⊢; rcases hm with rfl | rfl <;> simp)
  have zall8 : ∀ m ∈ [my1, mz1], m.Sz := by
    intro m hm
    simp only [List.mem_cons, List.not_mem_nil, or_false] at hm
    rcases hm with rfl | rfl
    · exact Ms.Sz_con q4 (zy _)
    · exact Ms.Sz_con q5 zx
  have H8 : Holds w8 R7 (star (bagA p [my1, mz1]) L) := H8
  obtain ⟨R9, le9, H9, hb9⟩ := H8.allocR (.cells #[.int .i64 kind, .int .i64 from_, .int .i64 to_, .int .i64 ballot, .string name, .int .i64 attempt, .int .i64 epoch, .int .i64 mark, .int .i64 size, .int .i64 what, .slice aw who.length cw, .slice an names.length cn, .slice ad data.length cd] tMsg (0, 0))
  clear hw hn hd H8
  go_wp2_with fail
  refine (ball_frz H9 (fun m hm => (hl8 m hm).le le9) zall8 (by simp)).mono ?_
  rintro e w10 ⟨R10, le10, v10, M, rfl, hcM, hM, hrM, H10⟩
  obtain ⟨ma, mb, rfl⟩ := two_of (show M.length = 2 by have h := congrArg List.length hcM; simpa using h)
  simp only [List.map_cons, List.map_nil, List.cons.injEq, and_true] at hcM
  have hsy : msSame ma (msY (.slice (some ⟨g1, 0, none⟩) 1 1)) = true := msSame_con (by rw [hcM.1, q4]; rfl)
  have hma := hM ma (by simp)
  have zma := Ms.Sz_con (hcM.1.trans q4) (zy (.slice none 0 0))
  have HMA := Hid.mk' hma
  have HZA := Hid.mk' zma
  obtain ⟨al, cl, rfl⟩ := hrM.form
  obtain ⟨bl, ol, rfl, hxl⟩ := rd_elt (f := Ms.cells) (l := [ma, mb]) (j := 0) Ms.cells_len hrM (by decide) (by simp)
  have hxl2 : ∀ r u, r < 13 → ma.cells[r]? = some u → R10.cell? ⟨bl, ol + (0 * 13 + r), none⟩ = some u := hxl
  obtain ⟨kind', from', to', ballot', name', attempt', epoch', mark', size', what', vw', vn', vd', who', names', data'⟩ := ma
  obtain ⟨hw', hn', hd'⟩ := hma
  simp only at hw' hn' hd'
  obtain ⟨aw', cw', rfl⟩ := hw'.form
  obtain ⟨an', cn', rfl⟩ := hn'.form
  obtain ⟨ad', cd', rfl⟩ := hd'.form
  have p0 : R10.cell? ⟨bl, ol, none⟩ = some (.int .i64 kind') := hxl2 0 _ (by omega) rfl
  have p1 : R10.cell? ⟨bl, ol + 1, none⟩ = some (.int .i64 from') := hxl2 1 _ (by omega) rfl
  have p2 : R10.cell? ⟨bl, ol + 2, none⟩ = some (.int .i64 to') := hxl2 2 _ (by omega) rfl
  have p3 : R10.cell? ⟨bl, ol + 3, none⟩ = some (.int .i64 ballot') := hxl2 3 _ (by omega) rfl
  have p4 : R10.cell? ⟨bl, ol + 4, none⟩ = some (.string name') := hxl2 4 _ (by omega) rfl
  have p5 : R10.cell? ⟨bl, ol + 5, none⟩ = some (.int .i64 attempt') := hxl2 5 _ (by omega) rfl
  have p6 : R10.cell? ⟨bl, ol + 6, none⟩ = some (.int .i64 epoch') := hxl2 6 _ (by omega) rfl
  have p7 : R10.cell? ⟨bl, ol + 7, none⟩ = some (.int .i64 mark') := hxl2 7 _ (by omega) rfl
  have p8 : R10.cell? ⟨bl, ol + 8, none⟩ = some (.int .i64 size') := hxl2 8 _ (by omega) rfl
  have p9 : R10.cell? ⟨bl, ol + 9, none⟩ = some (.int .i64 what') := hxl2 9 _ (by omega) rfl
  have p10 : R10.cell? ⟨bl, ol + 10, none⟩ = some (.slice aw' who'.length cw') := hxl2 10 _ (by omega) rfl
  have p11 : R10.cell? ⟨bl, ol + 11, none⟩ = some (.slice an' names'.length cn') := hxl2 11 _ (by omega) rfl
  have p12 : R10.cell? ⟨bl, ol + 12, none⟩ = some (.slice ad' data'.length cd') := hxl2 12 _ (by omega) rfl
  have hbl := Snap.someBlk p0
  have leA := (le7.trans le9).trans le10
  have b2 := (le6.trans leA).blk _ _ HB3.out
  have b3 := (le6.trans leA).blk _ _ HB.out
  have b5 := le10.blk _ _ hb9
  have rl := fun o => H10.rule bl o hbl
  have r2 := H10.frz b2
  have r3 := H10.frz b3
  have r5 := H10.frz b5
  have hyA := hy.le (le6.trans leA)
  have HYA := Hid.mk' hyA
  have HMX2 := Hid.mk' (HMX.out.le (le9.trans le10))
  have leF := Hid.mk' (((le2.trans le3).trans le4).trans (le6.trans leA))
  have ZY := Hid.mk' (zy (.slice (some ⟨g1, 0, none⟩) 1 1))
  have ZX := Hid.mk' zx
  have HXR := Hid.mk' (hx R10.cell?)
  have HSX := Hid.mk' hsx
  have HSY := Hid.mk' hsy
  have HBL := Hid.mk' hbl
  have B3 := Hid.mk' b3
  clear hxl hxl2 hw' hn' hd' hrM hM hl8 zall8 zall hy hyA le2 le3 le4 le6 le7 le9 le10 leA zy zx hx hsx hsy hbl b2 b3 b5 hb9 hb3 hb4 hb3' q1 q2 q3 q4 q5 hcM zmx zma HB HB3 HMX Hl6 Hl7 H9 hc6 hb2 hr5
  go_wp2_with fail
  obtain ⟨v7, hv7⟩ : ∃ v7, v7 = Value.slice (some ⟨bl, ol, none⟩) 2 cl := ⟨_, rfl⟩
  simp only [← hv7]
  have HV7 := Hid.mk' hv7
  clear hv7
  go_region_law (first | (go_simp; first | (go_at_call 44; refine (blen_spec H12).mono ?_; rintro e w13 ⟨rfl, rfl⟩) | (go_at_call 47; refine (bhead_spec (msY (.slice (some ⟨g1, 0, none⟩) 1 1)) H14 (fun w' h => HYA.out.world h) ZY.out).mono ?_; rintro e w15 ⟨R15, le15, vw15, rw15, vn15, rn15, vd15, rd15, rfl, H15⟩; obtain ⟨aw15, cw15, rfl⟩ := rw15.form; obtain ⟨an15, cn15, rfl⟩ := rn15.form; obtain ⟨ad15, cd15, hd15⟩ := rd15.form; replace hd15 : vd15 = .slice ad15 1 cd15 := hd15; subst hd15; obtain ⟨bd, od, rfl, hcd⟩ := RdB.open (Rd.world rd15 H15) (by show 0 < 1; omega); have e15 : w15.cell? ⟨bd, od, none⟩ = some (.int .u8 0) := hcd 0 (by show 0 < 1; omega); clear hcd) | (go_at_call 41; first | (refine (same25_spec (⟨kind', from', to', ballot', name', attempt', epoch', mark', size', what', .slice aw' who'.length cw', .slice an' names'.length cn', .slice ad' data'.length cd', who', names', data'⟩ : Ms) (msY (.slice (some ⟨g1, 0, none⟩) 1 1)) H12 HMA.out HZA.out HYA.out ZY.out).mono ?_; rintro e w14 ⟨rfl, H14⟩; rw [HSY.out]; have x3 := H14.frz B3.out; clear p0 p1 p2 p3 p4 p5 p6 p7 p8 p9 p10 p11 p12) | (refine (same25_spec (⟨kind, from_, to_, ballot, name, attempt, epoch, mark, size, what, .slice aw who.length cw, .slice an names.length cn, .slice ad data.length cd, who, names, data⟩ : Ms) msX H10.drew HMX2.out HZX.out HXR.out ZX.out).mono ?_; rintro e w12 ⟨rfl, H12⟩; rw [HSX.out]; have xl := fun o => H12.rule bl o HBL.out; have x3 := H12.frz B3.out; clear r2 r5 r3 rl))) | (have hq := HV7.out; subst hq; clear HV7; go_simp))
  all_goals
    go_wp2_with fail
    go_ret
    exact ⟨rfl, H15.drop.weaken (leF.out.trans le15)⟩
end Sh
