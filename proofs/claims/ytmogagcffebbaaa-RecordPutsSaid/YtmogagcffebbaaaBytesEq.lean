/- bytes.Equal. -/
import Derived.Test.YtmogagcffebbaaaTab
set_option linter.unusedVariables false
set_option linter.unusedSimpArgs false
namespace Sh
open Go Go.RowKit Go.Proofs
attribute [local go_sem ↓] Go.wp_at_zero Go.wp_at_succ
set_option maxHeartbeats 1000000
set_option maxRecDepth 100000

theorem bytesEqual_spec {w : World} {u v : Value} {l k : List UInt8} (hu : RdB w.cell? u l) (hv : RdB w.cell? v k) :
    Calls Try.prog 124 #[u, v] w fun e w' => e = .returned (.bool (decide (l = k))) ∧ w = w' := by
  have c1 := convStr hu
  have c2 := convStr hv
  go_enter Try.func124, Try.ntmps124
  go_wp2_with fail
  go_ret
  exact ⟨ret_bool (by rw [Bool.eq_iff_iff]; simp), rfl⟩
end Sh
