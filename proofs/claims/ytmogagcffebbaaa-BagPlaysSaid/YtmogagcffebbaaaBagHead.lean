/- bag.Head; sherdref44.Head. -/
import Derived.Test.YtmogagcffebbaaaBag
set_option linter.unusedVariables false
set_option linter.unusedSimpArgs false
namespace Sh
open Go Go.RowKit Go.Proofs
attribute [local go_sem ↓] Go.wp_at_zero Go.wp_at_succ
set_option maxHeartbeats 1000000
set_option maxRecDepth 100000

theorem run_clear_row {w : World} {R : Snap} {L : Asrt} {v : Value} {l : List UInt8} (H : Holds w R (star (rowB v l) L)) :
    ∃ w', (∀ ty, (Builtin.clear_ #[tBytes] ty #[v]).run Try.prog w = .ok (.tuple #[]) w') ∧ Holds w' R (star (rowB v (List.replicate l.length 0)) L) := by
  by_cases h0 : l.length = 0
  · obtain ⟨a, c, rfl⟩ := H.rowRd.form
    have hl : l = [] := List.eq_nil_of_length_eq_zero h0
    subst hl
    refine ⟨w, fun ty => ?_, H⟩
    cases a <;> simp [Builtin.clear_, run_underlying undBytes]
  · obtain ⟨g, cap, rfl, hc, hg, hcell, hfro⟩ := H.rowAt (by omega)
    have hz : ∀ w, (zeroValue tU8).run Try.prog w = .ok (.int .u8 0) w := fun w => by kernel_rfl
    refine ⟨w.setCells g 0 (List.replicate l.length (.int .u8 0)), fun ty => Lib.run_clear_slice w _ _ ty _ undBytes hz rfl rfl g 0 _ _ (by omega) (fun j hj => ?_) (fun j hj => hfro _), ?_⟩
    · rw [Nat.zero_add, hcell j _ (u8s_get l j hj)]; rfl
    · have h := Holds.rowSetCells (List.replicate l.length (.int .u8 0)) 0 _ _ H (by simp)
      rw [List.take_zero, List.nil_append, List.drop_of_length_le (by simp), List.append_nil] at h
      show Holds _ R (star (row tU8 1 _ (List.replicate l.length (0 : UInt8)).length _) L)
      rw [List.length_replicate, u8s, List.map_replicate]
      exact h
theorem wpList_clearB {w : World} {R : Snap} {L : Asrt} {v : Value} {l : List UInt8} {ops : Array Oper} {rest : List Oper} {o : Oper} {a : Act} {Q : Exit → Act → World → Prop} (hgd : o.guard = none) (x : Operand)
    (ho : o.op = .call { callee := .builtin .clear, args := #[x], argTypes := #[tBytes] }) (hx : a.eval x = v) (H : Holds w R (star (rowB v l) L))
    (hK : ∀ w', Holds w' R (star (rowB v (List.replicate l.length 0)) L) → wpList Try.prog ops Q rest (a.put o.dst (.tuple #[])) w') : wpList Try.prog ops Q (o :: rest) a w :=
  wpList_plain hgd fun _ hK' => by
    obtain ⟨w', hrun, H'⟩ := run_clear_row H
    unfold Oper.wp execOp
    simp only [ho, resolve, invoke, builtin, Sem.run_bind, Sem.run_pure, Result.andThen_ok, List.map_toArray, List.map_cons, List.map_nil, hx, hrun]
    exact hK' _ _ (hK w' H')
def Ms.head (m : Ms) (vw vn vd : Value) : Ms := ⟨m.kind, m.from_, m.to_, m.ballot, m.name, m.attempt, m.epoch, m.mark, m.size, m.what, vw, vn, vd, m.who, m.names, List.replicate m.data.length 0⟩
theorem bhead_spec {w : World} {R : Snap} {L : Asrt} (m : Ms) (H : Holds w R L) (hr : ∀ w', Holds w' R L → m.Rd w'.cell?) (hz : m.Sz) :
    Calls Try.prog 47 #[.agg m.cells.toArray] w fun e w' => ∃ R', R.le R' ∧ ∃ vw, RdI R'.cell? vw m.who ∧ ∃ vn, RdS R'.cell? vn m.names ∧ ∃ vd, RdB R'.cell? vd (List.replicate m.data.length 0) ∧ e = .returned (.agg (m.head vw vn vd).cells.toArray) ∧ Holds w' R' L := by
  have hm := hr w H
  have HM := Hid.mk' hr
  have HZ := Hid.mk' hz
  obtain ⟨kind, from_, to_, ballot, name, attempt, epoch, mark, size, what, vw, vn, vd, who, names, data⟩ := m
  obtain ⟨hw, hn, hd⟩ := hm
  obtain ⟨z1, z2, z3, z4, z5⟩ := hz
  simp only at z1 z2 z3 z4 z5 hw hn hd
  obtain ⟨aw, cw, rfl⟩ := hw.form
  obtain ⟨an, cn, rfl⟩ := hn.form
  obtain ⟨ad, cd, rfl⟩ := hd.form
  clear hw hn hd hr
  have H2 := (H.alloc #[.int .i64 kind, .int .i64 from_, .int .i64 to_, .int .i64 ballot, .string name, .int .i64 attempt, .int .i64 epoch, .int .i64 mark, .int .i64 size, .int .i64 what, .slice aw who.length cw, .slice an names.length cn, .slice ad data.length cd] tMsg).alloc zeroMs tMsg
  simp only [World.size_alloc] at H2
  show Calls _ _ #[.agg #[.int .i64 kind, .int .i64 from_, .int .i64 to_, .int .i64 ballot, .string name, .int .i64 attempt, .int .i64 epoch, .int .i64 mark, .int .i64 size, .int .i64 what, .slice aw who.length cw, .slice an names.length cn, .slice ad data.length cd]] _ _
  go_enter Try.func47, Try.ntmps47
  go_wp2_with (with_reducible refine stop_clear ?_)
  generalize (World.alloc ..) = w2 at H2 ⊢
  generalize w.heap.size + 1 = g2 at H2 ⊢
  generalize w.heap.size = g at H2 ⊢
  clear H
  refine (own_spec (⟨kind, from_, to_, ballot, name, attempt, epoch, mark, size, what, .slice aw who.length cw, .slice an names.length cn, .slice ad data.length cd, who, names, data⟩ : Ms) H2 (fun w' h => HM.out w' h.drop.drop) HZ.out).mono ?_
  rintro e w5 ⟨R5, le5, vw5, r1, vn5, r2, vd5, rfl, H5⟩
  obtain ⟨a5, c5, rfl⟩ := r1.form
  obtain ⟨a6, c6, rfl⟩ := r2.form
  obtain ⟨a7, c7, rfl⟩ := H5.rowRd.form
  clear H2
  obtain ⟨l15, n15, c15, z15⟩ := Holds.facts (H5.pick3)
  go_wp2_with (with_reducible refine stop_clear ?_)
  have H6 := H5.pick3.blkFull [.int .i64 kind, .int .i64 from_, .int .i64 to_, .int .i64 ballot, .string name, .int .i64 attempt, .int .i64 epoch, .int .i64 mark, .int .i64 size, .int .i64 what, .slice a5 who.length c5, .slice a6 names.length c6, .slice a7 data.length c7] rfl
  clear H5 l15 n15 c15 z15
  generalize hw6 : World.setCell .. = w6
  replace H6 := Holds.at hw6 H6
  clear hw6
  refine Hold.go (wpList_clearB rfl _ rfl rfl H6.swap ?_)
  intro w7 H7
  obtain ⟨l17, n17, c17, z17⟩ := Holds.facts (H7.swap)
  obtain ⟨l18, n18, c18, z18⟩ := Holds.facts (H7.pick3)
  obtain ⟨s1, s2⟩ := Holds.apart H7.drop
  clear H6
  go_wp2_with fail
  have H8 := H7.pick3.blkFull [.int .i64 kind, .int .i64 from_, .int .i64 to_, .int .i64 ballot, .string name, .int .i64 attempt, .int .i64 epoch, .int .i64 mark, .int .i64 size, .int .i64 what, .slice a5 who.length c5, .slice a6 names.length c6, .slice a7 data.length c7] rfl
  clear H7 l17 n17 c17 z17 l18 n18 c18 z18
  generalize hw9 : World.setCell .. = w9
  replace H8 := Holds.at hw9 H8
  clear hw9
  refine bodyPost_ret (results_cell_row rfl _ _ g2 tMsg _ (0, 0) _ rfl H8.blkAt Try.underlying63 rfl (by kernel_rfl)) rfl ?_
  obtain ⟨R9, le9, H9, r3⟩ := H8.swap.freezeRow
  exact ⟨R9, le5.trans le9, .slice a5 who.length c5, Rd.le r1 le9, .slice a6 names.length c6, Rd.le r2 le9, .slice a7 data.length c7, r3, rfl, H9.drop.drop⟩
theorem rhead_spec {w : World} {R : Snap} {L : Asrt} (m : Ms) (H : Holds w R L) (hr : m.Rd R.cell?) (hz : m.Sz) :
    Calls Try.prog 48 #[.agg m.cells.toArray] w fun e w' => ∃ R', R.le R' ∧ ∃ vd, RdB R'.cell? vd (List.replicate m.data.length 0) ∧ e = .returned (.agg (m.head m.vw m.vn vd).cells.toArray) ∧ Holds w' R' L := by
  have hm := hr
  obtain ⟨kind, from_, to_, ballot, name, attempt, epoch, mark, size, what, vw, vn, vd, who, names, data⟩ := m
  obtain ⟨hw, hn, hd⟩ := hm
  obtain ⟨z1, z2, z3, z4, z5⟩ := hz
  simp only at z1 z2 z3 z4 z5 hw hn hd
  obtain ⟨aw, cw, rfl⟩ := hw.form
  obtain ⟨an, cn, rfl⟩ := hn.form
  obtain ⟨ad, cd, rfl⟩ := hd.form
  clear hw hn hd hr
  have H2 := (H.alloc #[.int .i64 kind, .int .i64 from_, .int .i64 to_, .int .i64 ballot, .string name, .int .i64 attempt, .int .i64 epoch, .int .i64 mark, .int .i64 size, .int .i64 what, .slice aw who.length cw, .slice an names.length cn, .slice ad data.length cd] tMsg).alloc zeroMs tMsg
  simp only [World.size_alloc] at H2
  show Calls _ _ #[.agg #[.int .i64 kind, .int .i64 from_, .int .i64 to_, .int .i64 ballot, .string name, .int .i64 attempt, .int .i64 epoch, .int .i64 mark, .int .i64 size, .int .i64 what, .slice aw who.length cw, .slice an names.length cn, .slice ad data.length cd]] _ _
  go_enter Try.func48, Try.ntmps48
  go_wp2_with (with_reducible refine stop_make ?_)
  generalize (World.alloc ..) = w2 at H2 ⊢
  generalize w.heap.size + 1 = g2 at H2 ⊢
  generalize w.heap.size = g at H2 ⊢
  clear H
  refine Hold.go (wpList_makeB (n := data.length) rfl _ _ rfl rfl rfl H2 (by omega) ?_)
  intro v6 w6 H6
  obtain ⟨a6, c6, rfl⟩ := H6.rowRd.form
  rw [List.length_replicate] at H6 ⊢
  clear H2
  obtain ⟨l7, n7, c7, z7⟩ := Holds.facts (H6.swap)
  obtain ⟨l8, n8, c8, z8⟩ := Holds.facts (H6.pick3)
  obtain ⟨s1, s2⟩ := Holds.apart H6.drop
  go_wp2_with fail
  have H7 := (H6.pick3.set 12 (.slice a6 data.length c6)).pick3
  have H8 := H7.blkFull [.int .i64 kind, .int .i64 from_, .int .i64 to_, .int .i64 ballot, .string name, .int .i64 attempt, .int .i64 epoch, .int .i64 mark, .int .i64 size, .int .i64 what, .slice aw who.length cw, .slice an names.length cn, .slice a6 data.length c6] rfl
  clear H6 H7 l7 n7 c7 z7 l8 n8 c8 z8
  generalize hw9 : World.setCell .. = w9
  replace H8 := Holds.at hw9 H8
  clear hw9
  refine bodyPost_ret (results_cell_row rfl _ _ g2 tMsg _ (0, 0) _ rfl H8.blkAt Try.underlying63 rfl (by kernel_rfl)) rfl ?_
  obtain ⟨R9, le9, H9, r3⟩ := H8.pick3.freezeRow
  exact ⟨R9, le9, .slice a6 data.length c6, r3, rfl, H9.drop.drop⟩
end Sh
