/- A sealed sector: the plain law. -/
import Derived.Test.YtmogagcffebbaaaSectorRef
set_option linter.unusedVariables false
set_option linter.unusedSimpArgs false
namespace Sh
open Go Go.RowKit Go.Proofs
attribute [local go_sem ↓] Go.wp_at_zero Go.wp_at_succ
set_option maxHeartbeats 1000000
set_option maxRecDepth 100000

theorem good_zero : goodB (List.replicate 64 0) = false := by decide +kernel
theorem seal_clear {p : List UInt8} (h : p.length ≤ 60) : clearB (sealS p) = false := by
  rw [clearB, decide_eq_false_iff_not]
  intro h2
  have h3 : goodB (sealS p) = true := by rw [sealS, if_pos h]; exact goodB_seal _
  rw [h2, good_zero] at h3
  cases h3
theorem open_seal {p : List UInt8} (h : p.length ≤ 60) : openOk (sealS p) = true ∧ openP (sealS p) = padTo60 p := by
  have h1 : openOk (sealS p) = true := by
    rw [openOk, sealS_len h, sealS, if_pos h, goodB_seal]; rfl
  refine ⟨h1, ?_⟩
  rw [openP, if_pos h1, sealS, if_pos h, sealB, List.take_append_of_le_length (by rw [padTo60_len h]; decide), List.take_of_length_le (by rw [padTo60_len h]; decide)]
theorem pad_take {p : List UInt8} (h : p.length ≤ 60) : (padTo60 p).take p.length = p := by
  rw [padTo60, List.take_of_length_le h, List.take_append_of_le_length (Nat.le_refl _), List.take_length]
end Sh
