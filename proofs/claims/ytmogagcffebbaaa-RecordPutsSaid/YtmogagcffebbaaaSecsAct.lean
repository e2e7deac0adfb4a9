/- How sectors read as an argument. -/
import Derived.Test.YtmogagcffebbaaaRow
import Derived.Test.YtmogagcffebbaaaSecs
set_option linter.unusedVariables false
set_option linter.unusedSimpArgs false
namespace Sh
open Go Go.RowKit Go.Proofs
instance : Inhabited (Value × List UInt8) := ⟨(.slice none 0 0, [])⟩
theorem read_sec {H : Type} {enc : TypeId × Value → H} {w : World} {base : Nat} {spare : Nat → Bool} {held : Bool} {fuel : Nat} {cs : List Value} {x : DataW H × List MemPlace} (h : DataW.trod enc Try.prog w base spare held fuel 22 cs = some x) :
    ∃ q : Value × List UInt8, cs = [q.1] ∧ RdB w.cell? q.1 q.2 := by
  obtain ⟨v, l, h1, h2⟩ := read_bytes Try.underlying22 Try.underlying5 (by kernel_rfl) h
  exact ⟨(v, l), h1, h2⟩
theorem secs_of {c : Addr → Option Value} {v : Value} {ss : List (Value × List UInt8)} (h : Rd c 1 v ss.length (ss.flatMap fun q => [q.1])) (hg : ∀ q ∈ ss, RdB c q.1 q.2) : RdBB c v ss := by
  rw [flat_single] at h
  exact ⟨h, hg⟩
end Sh
