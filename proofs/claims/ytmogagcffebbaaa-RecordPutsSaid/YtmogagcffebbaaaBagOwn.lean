/- bag.own. -/
import Derived.Test.YtmogagcffebbaaaBagMem
set_option linter.unusedVariables false
set_option linter.unusedSimpArgs false
namespace Sh
open Go Go.RowKit Go.Proofs
attribute [local go_sem ↓] Go.wp_at_zero Go.wp_at_succ
set_option maxHeartbeats 1000000
set_option maxRecDepth 100000

def Ms.re (m : Ms) (vw vn vd : Value) : Ms := ⟨m.kind, m.from_, m.to_, m.ballot, m.name, m.attempt, m.epoch, m.mark, m.size, m.what, vw, vn, vd, m.who, m.names, m.data⟩
abbrev zeroMs : Array Value := #[.int .i64 0, .int .i64 0, .int .i64 0, .int .i64 0, .string ⟨#[]⟩, .int .i64 0, .int .i64 0, .int .i64 0, .int .i64 0, .int .i64 0, .slice none 0 0, .slice none 0 0, .slice none 0 0]
theorem own_meet {w : World} {R : Snap} {L : Asrt} {g g2 : Nat} {cs cs2 : Array Value} {vS vI : Value} {who : List Int} {names : List ByteArray} (H : Holds w R (star (blk g cs tMsg) (star (row tStr 1 vS names.length (names.map Value.string)) (star (row tInt 1 vI who.length (who.map (Value.int .i64))) (star (blk g2 cs2 tMsg) L))))) :
    ∃ R1, R.le R1 ∧ RdI R1.cell? vI who ∧ RdS R1.cell? vS names ∧ Holds w R1 (star (blk g2 cs2 tMsg) (star (blk g cs tMsg) L)) := by
  obtain ⟨R1, le1, H1, hs⟩ := H.swap.freezeRow
  obtain ⟨R2, le2, H2, hi⟩ := H1.swap.freezeRow
  exact ⟨R2, le1.trans le2, hi, Rd.le hs le2, H2.swap⟩
theorem own_spec {w : World} {R : Snap} {L : Asrt} (m : Ms) (H : Holds w R L) (hr : ∀ w', Holds w' R L → m.Rd w'.cell?) (hz : m.Sz) :
    Calls Try.prog 111 #[.agg m.cells.toArray] w fun e w' => ∃ (R' : Snap), R.le R' ∧ ∃ vw, RdI R'.cell? vw m.who ∧ ∃ vn, RdS R'.cell? vn m.names ∧ ∃ vd, e = .returned (.agg (m.re vw vn vd).cells.toArray) ∧ Holds w' R' (star (rowB vd m.data) L) := by
  have hm := hr w H
  obtain ⟨kind, from_, to_, ballot, name, attempt, epoch, mark, size, what, vw, vn, vd, who, names, data⟩ := m
  obtain ⟨hw, hn, hd⟩ := hm
  obtain ⟨z1, z2, z3, z4, z5⟩ := hz
  simp only at z1 z2 z3 z4 z5 hw hn hd
  obtain ⟨aw, cw, rfl⟩ := hw.form
  obtain ⟨an, cn, rfl⟩ := hn.form
  obtain ⟨ad, cd, rfl⟩ := hd.form
  have HM := Hid.mk' hr
  clear hw hn hd hr
  have H2 := (H.alloc #[.int .i64 kind, .int .i64 from_, .int .i64 to_, .int .i64 ballot, .string name, .int .i64 attempt, .int .i64 epoch, .int .i64 mark, .int .i64 size, .int .i64 what, .slice aw who.length cw, .slice an names.length cn, .slice ad data.length cd] tMsg).alloc zeroMs tMsg
  simp only [World.size_alloc] at H2
  show Calls _ _ #[.agg #[.int .i64 kind, .int .i64 from_, .int .i64 to_, .int .i64 ballot, .string name, .int .i64 attempt, .int .i64 epoch, .int .i64 mark, .int .i64 size, .int .i64 what, .slice aw who.length cw, .slice an names.length cn, .slice ad data.length cd]] _ _
  go_enter Try.func111, Try.ntmps111
  go_wp2_with fail
  generalize (World.alloc ..) = w2 at H2 ⊢
  generalize w.heap.size + 1 = g2 at H2 ⊢
  generalize w.heap.size = g at H2 ⊢
  clear H
  go_cut [] (fun wx => ∃ (R1 : Snap) (ai : Option Addr) (ci : Nat) (as_ : Option Addr) (cs_ : Nat), R.le R1 ∧ RdI R1.cell? (.slice ai who.length ci) who ∧ RdS R1.cell? (.slice as_ names.length cs_) names ∧ Holds wx R1 (star (blk g2 zeroMs tMsg) (star (blk g #[.int .i64 kind, .int .i64 from_, .int .i64 to_, .int .i64 ballot, .string name, .int .i64 attempt, .int .i64 epoch, .int .i64 mark, .int .i64 size, .int .i64 what, .slice ai who.length ci, .slice as_ names.length cs_, .slice ad data.length cd] tMsg) L)))
  case first =>
    obtain ⟨l1, n1, c1, z1⟩ := Holds.facts (H2.swap)
    go_region_law (first | (go_simp; go_at_call 179; refine (cloneInts_spec H2.drew (fun w' h => (HM.out w' h.drop.drop).1) z3).mono ?_; rintro e w3 ⟨v3, rfl, H3⟩; obtain ⟨a3, c3, rfl⟩ := H3.rowRd.form; obtain ⟨l2, n2, k2, f2⟩ := Holds.facts H3.pick3) | (go_simp; go_at_call 180; refine (cloneStrs_spec H2.drew (fun w' h => (HM.out w' h.drop.drop).2.1) z4).mono ?_; rintro e w3 ⟨v4, rfl, H3b⟩; obtain ⟨a4, c4, rfl⟩ := H3b.rowRd.form; obtain ⟨l2, n2, k2, f2⟩ := Holds.facts H3b.pick3) | (go_simp; go_at_call 180; refine (cloneStrs_spec H3 (fun w' h => (HM.out w' h.drop.drop.drop).2.1) z4).mono ?_; rintro e w4 ⟨v4, rfl, H4⟩; obtain ⟨a4, c4, rfl⟩ := H4.rowRd.form; obtain ⟨l4, n4, k4, f4⟩ := Holds.facts H4.pick4) | (go_simp; go_at_call 179; refine (cloneInts_spec H3b (fun w' h => (HM.out w' h.drop.drop.drop).1) z3).mono ?_; rintro e w4 ⟨v3, rfl, H4b⟩; obtain ⟨a3, c3, rfl⟩ := H4b.rowRd.form; have H4 := H4b.swap; obtain ⟨l4, n4, k4, f4⟩ := Holds.facts H4b.pick4))
    all_goals
      go_wp2_with fail
      go_meet
      case rel =>
        have h1 := own_meet (((H4.pick4).set 10 (.slice a3 who.length c3)).set 11 (.slice a4 names.length c4))
        have h2 := own_meet (((H4.pick4).set 11 (.slice a4 names.length c4)).set 10 (.slice a3 who.length c3))
        first | (obtain ⟨R1, q1, q2, q3, q4⟩ := h1; exact ⟨R1, a3, c3, a4, c4, q1, q2, q3, q4⟩) | (obtain ⟨R1, q1, q2, q3, q4⟩ := h2; exact ⟨R1, a3, c3, a4, c4, q1, q2, q3, q4⟩)
  clear H2
  obtain ⟨R1, ai, ci, as_, cs_, le1, ri, rs, H5⟩ := hcut
  obtain ⟨l5, n5, c5, z5⟩ := Holds.facts (H5.swap)
  go_wp2_with (with_reducible refine stop_make ?_)
  refine Hold.go (wpList_makeB (n := data.length) rfl _ _ rfl rfl rfl H5 (by omega) ?_)
  intro v6 w6 H6
  clear l5 n5 c5 z5 H5
  obtain ⟨a6, c6, rfl⟩ := H6.rowRd.form
  rw [List.length_replicate] at H6 ⊢
  obtain ⟨l6, n6, c6, z6⟩ := Holds.facts (H6.pick3)
  go_wp2_with (with_reducible refine stop_copy ?_)
  have HD := fun w' h => (HM.out w' h).2.2
  refine Hold.go (wpList_copyB rfl _ _ rfl rfl rfl H6 (HD _ ((H6.weaken le1).drop.drop.drop)) ?_)
  intro w7 H7
  have e7 : data.take (List.replicate data.length (0 : UInt8)).length ++ (List.replicate data.length (0 : UInt8)).drop data.length = data := by simp
  rw [e7] at H7
  clear H6 l6 n6 c6 z6
  obtain ⟨l7, n7, c7, z7⟩ := Holds.facts (H7.pick3)
  obtain ⟨l8, n8, c8, z8⟩ := Holds.facts (H7.swap)
  obtain ⟨s1, s2⟩ := Holds.apart H7.drop
  go_wp2_with fail
  have H8 := (H7.pick3.set 12 (.slice a6 data.length c6)).pick3
  have H9 := H8.blkFull [.int .i64 kind, .int .i64 from_, .int .i64 to_, .int .i64 ballot, .string name, .int .i64 attempt, .int .i64 epoch, .int .i64 mark, .int .i64 size, .int .i64 what, .slice ai who.length ci, .slice as_ names.length cs_, .slice a6 data.length c6] rfl
  clear H8 H7 l7 n7 c7 z7 l8 n8 c8 z8
  generalize hw9 : World.setCell .. = w9
  replace H9 := Holds.at hw9 H9
  clear hw9
  refine bodyPost_ret (results_cell_row rfl _ _ g2 tMsg _ (0, 0) _ rfl H9.blkAt Try.underlying63 rfl (by kernel_rfl)) rfl ?_
  exact ⟨R1, le1, .slice ai who.length ci, ri, .slice as_ names.length cs_, rs, .slice a6 data.length c6, rfl, H9.drop.drop⟩
end Sh
