/- sherdref25.Get: one contract. -/
import Derived.Test.YtmogagcffebbaaaMsgRGet
set_option linter.unusedVariables false
set_option linter.unusedSimpArgs false
namespace Sh
open Go Go.RowKit Go.Proofs
attribute [local go_sem ↓] Go.wp_at_zero Go.wp_at_succ
set_option maxHeartbeats 1000000
set_option maxRecDepth 100000

theorem rget_bad {w : World} {R : Snap} {L : Asrt} {vx : Value} {x : List UInt8} (H : Holds w R L) (hx : RdB R.cell? vx x) (hn : x.length ≤ 1000000) (hg : goodB x = false) :
    Calls Try.prog 59 #[vx] w fun e w' => e = .returned (.tuple #[.agg zeroMs, .int .i64 4]) ∧ Holds w' R L := by
  have HG := Hid.mk' hg
  have H1 := H.alloc zeroMs tMsg
  clear H hg
  go_enter Try.func59, Try.ntmps59
  go_wp2_with fail
  generalize (World.alloc ..) = w1 at H1 ⊢
  generalize w.heap.size = z at H1 ⊢
  refine (cgood_ref H1 hx hn).mono ?_
  rintro e w2 ⟨rfl, H2⟩
  rw [HG.out]
  clear H1 hx
  obtain ⟨l8, n8, c8, z8⟩ := Holds.facts (H2)
  go_wp2_with fail
  have H13 := H2.blkFull [.int .i64 0, .int .i64 0, .int .i64 0, .int .i64 0, .string ⟨#[]⟩, .int .i64 0, .int .i64 0, .int .i64 0, .int .i64 0, .int .i64 0, .slice none 0 0, .slice none 0 0, .slice none 0 0] rfl
  clear H2 l8 n8 c8 z8
  generalize hw9 : World.setCell .. = w13
  replace H13 := Holds.at hw9 H13
  clear hw9
  refine bodyPost_ret (results_cell2 rfl _ _ z tMsg _ (0, 0) _ rfl H13.blkAt Try.underlying63 rfl (by kernel_rfl)) rfl ?_
  exact ⟨rfl, H13.drop⟩
theorem rget_spec {w : World} {R : Snap} {L : Asrt} {vx : Value} {x : List UInt8} (H : Holds w R L) (hx : RdB R.cell? vx x) (hn : x.length ≤ 1000000) :
    Calls Try.prog 59 #[vx] w fun e w' => ∃ R', R.le R' ∧ ∃ M : Ms, e = .returned (.tuple #[.agg M.cells.toArray, .int .i64 (getCode x)]) ∧ M.con = (getMs x).con ∧ M.Rd R'.cell? ∧ M.Sz ∧ Holds w' R' L := by
  by_cases hg : goodB x = true
  · have h4 : 4 ≤ x.length := by
      have h := hg
      simp only [goodB, decide_eq_true_eq] at h
      exact h.1
    exact rget_good H hx hn h4 hg rfl _ _ (by rw [getCode, if_pos hg]) (by rw [getMs, if_pos hg])
  · have hg : goodB x = false := by simpa using hg
    refine (rget_bad H hx hn hg).mono ?_
    rintro e w' ⟨rfl, H2⟩
    exact ⟨R, Snap.le.refl _, msZero, by rw [getCode, hg]; rfl, by rw [getMs, hg]; rfl, ⟨Rd.nil, Rd.nil, RdB.nil⟩, ms_zero_Sz, H2⟩
end Sh
