/- msg.Size. -/
import Derived.Test.YtmogagcffebbaaaMsgPut
set_option linter.unusedVariables false
set_option linter.unusedSimpArgs false
namespace Sh
open Go Go.RowKit Go.Proofs
attribute [local go_sem ↓] Go.wp_at_zero Go.wp_at_succ
set_option maxHeartbeats 1000000
set_option maxRecDepth 100000

theorem tx_len (l : List UInt8) : (tx l).length ≤ 256 := by
  rw [tx, List.length_append, nb_length, wid_1, List.length_take]; omega
theorem body_len {m : Ms} (h : msgOk m = true) : (bodyB m).length ≤ 100000 := by
  simp only [msgOk, Bool.and_eq_true, decide_eq_true_eq, Bool.or_eq_true] at h
  obtain ⟨⟨⟨⟨⟨⟨⟨⟨⟨⟨k1, k2⟩, k3⟩, k4⟩, k5⟩, k6⟩, k7⟩, k8⟩, k9⟩, k10⟩, k11⟩ := h
  have f10 := inAll_mem k8 (x := (m.who.length : Int)) (by simp)
  have a1 : (m.who.flatMap (nb 4)).length = m.who.length * 4 := flatB_len (k := 4) (fun x => by rw [nb_length, wid_4]) _
  have a2 := txs_len k10 m.names.length
  rw [List.take_length] at a2
  have a3 := tx_len m.data
  have a4 : (txS m.name).length ≤ 256 := tx_len _
  unfold bodyB bodyS
  simp only [List.length_append, nb_length, wid_1, wid_2, wid_4, List.length_nil, a1]
  omega
theorem msize_spec {w : World} {R : Snap} {L : Asrt} (m : Ms) (H : Holds w R L) (hm : m.Rd R.cell?) (hz : m.Sz) :
    Calls Try.prog 55 #[.agg m.cells.toArray] w fun e w' => e = .returned (.int .i64 ((if msgOk m = true then (putM m).length else 0 : Nat) : Int)) ∧ Holds w' R L := by
  have HM := Hid.mk' hm
  have HZ := Hid.mk' hz
  have hlen : msgOk m = true → (bodyB m).length ≤ 100000 := fun h => body_len h
  have HL := Hid.mk' hlen
  obtain ⟨ok, hok⟩ : ∃ ok, ok = msgOk m := ⟨_, rfl⟩
  have HOK := Hid.mk' hok
  rw [← hok]
  obtain ⟨sz, hsz⟩ : ∃ sz, sz = (if ok = true then (putM m).length else 0) := ⟨_, rfl⟩
  rw [← hsz]
  have HSZ := Hid.mk' hsz
  have HSP := Hid.mk' (show ok = true → sz = (bodyB m).length + 4 from fun h => by rw [hsz, if_pos h, putM, sealB_len])
  obtain ⟨kind, from_, to_, ballot, name, attempt, epoch, mark, size, what, vw, vn, vd, who, names, data⟩ := m
  obtain ⟨hw, hn, hd⟩ := hm
  obtain ⟨z1, z2, z3, z4, z5⟩ := hz
  simp only at z1 z2 z3 z4 z5 hw hn hd
  obtain ⟨aw, cw, rfl⟩ := hw.form
  obtain ⟨an, cn, rfl⟩ := hn.form
  obtain ⟨ad, cd, rfl⟩ := hd.form
  obtain ⟨R1, le1, H1, hb⟩ := H.allocR (.cells #[.int .i64 kind, .int .i64 from_, .int .i64 to_, .int .i64 ballot, .string name, .int .i64 attempt, .int .i64 epoch, .int .i64 mark, .int .i64 size, .int .i64 what, .slice aw who.length cw, .slice an names.length cn, .slice ad data.length cd] tMsg (0, 0))
  clear hw hn hd hok hsz hlen H
  obtain ⟨l1, n1, c1⟩ := Holds.frzFacts (H1) hb
  show Calls _ _ #[.agg #[.int .i64 kind, .int .i64 from_, .int .i64 to_, .int .i64 ballot, .string name, .int .i64 attempt, .int .i64 epoch, .int .i64 mark, .int .i64 size, .int .i64 what, .slice aw who.length cw, .slice an names.length cn, .slice ad data.length cd]] _ _
  go_enter Try.func55, Try.ntmps55
  go_wp2_with fail
  refine (right25_spec (⟨kind, from_, to_, ballot, name, attempt, epoch, mark, size, what, .slice aw who.length cw, .slice an names.length cn, .slice ad data.length cd, who, names, data⟩ : Ms) H1 (fun w' h => (HM.out.le le1).world h) HZ.out).mono ?_
  rintro e w2 ⟨rfl, H2⟩
  rw [← HOK.out]
  clear H1 l1 n1 c1
  obtain ⟨l2, n2, c2⟩ := Holds.frzFacts (H2) hb
  cases ok
  · go_wp2_with fail
    go_ret
    exact ⟨by rw [HSZ.out]; rfl, H2.weaken le1⟩
  · go_wp2_with fail
    refine (mput_nil (⟨kind, from_, to_, ballot, name, attempt, epoch, mark, size, what, .slice aw who.length cw, .slice an names.length cn, .slice ad data.length cd, who, names, data⟩ : Ms) H2 (HM.out.le le1) HZ.out HOK.out.symm).mono ?_
    rintro e w3 ⟨o, rfl, H3⟩
    obtain ⟨a, c, rfl⟩ := H3.rowRd.form
    have hl := HL.out HOK.out.symm
    have hsz : sz = (bodyB (⟨kind, from_, to_, ballot, name, attempt, epoch, mark, size, what, .slice aw who.length cw, .slice an names.length cn, .slice ad data.length cd, who, names, data⟩ : Ms)).length + 4 := HSP.out (by first | trivial | rfl)
    generalize (bodyB (⟨kind, from_, to_, ballot, name, attempt, epoch, mark, size, what, .slice aw who.length cw, .slice an names.length cn, .slice ad data.length cd, who, names, data⟩ : Ms)).length = n at *
    have hw : IntKind.i64.wrap ((n : Int) + 4) = (n : Int) + 4 := IntWalk.i64_in _ (by omega)
    go_wp2_with fail
    go_ret
    exact ⟨by rw [hsz]; push_cast; rfl, (H3.drop).weaken le1⟩
end Sh
