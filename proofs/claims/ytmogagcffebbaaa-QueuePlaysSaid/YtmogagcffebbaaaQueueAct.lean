/- How an argument of the queue's laws reads. -/
import Derived.Test.YtmogagcffebbaaaRow
import Derived.Test.YtmogagcffebbaaaQueueLaw
set_option linter.unusedVariables false
set_option linter.unusedSimpArgs false
namespace Sh
open Go Go.RowKit Go.Proofs
set_option maxRecDepth 100000 in
theorem read_op {H : Type} {enc : TypeId × Value → H} {w : World} {base : Nat} {spare : Nat → Bool} {held : Bool} {fuel : Nat} {cs : List Value} {x : DataW H × List MemPlace} (h : DataW.trod enc Try.prog w base spare held fuel 24 cs = some x) :
    ∃ a : Op3, cs = a.cells ∧ a.Good w.cell? := by
  obtain ⟨hl, n, hf⟩ := read_fields Try.underlying24 h
  have hl : cs.length = 3 := hl
  match cs, hl with
  | [c0, c1, c2], _ =>
    obtain ⟨y0, h0⟩ := hf 0 _ rfl
    obtain ⟨y1, h1⟩ := hf 1 _ rfl
    obtain ⟨y2, h2⟩ := hf 2 _ rfl
    obtain ⟨a0, e0, g0⟩ := read_int Try.underlying3 h0
    obtain ⟨a1, e1, g1⟩ := read_string Try.underlying9 h1
    obtain ⟨v2, l2, e2, hb⟩ := read_bytes Try.underlying22 Try.underlying5 (by kernel_rfl) h2
    obtain rfl : c0 = .int .i64 a0 := List.head_eq_of_cons_eq (show [c0] = [.int .i64 a0] from e0)
    obtain rfl : c1 = .string a1 := List.head_eq_of_cons_eq (show [c1] = [.string a1] from e1)
    obtain rfl : c2 = v2 := List.head_eq_of_cons_eq (show [c2] = [v2] from e2)
    exact ⟨⟨a0, a1, c2, l2⟩, rfl, hb, g1, g0⟩
end Sh
