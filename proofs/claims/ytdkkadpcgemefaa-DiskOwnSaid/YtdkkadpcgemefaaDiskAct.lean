/- How an argument of the disk's laws reads. -/
import Derived.Test.YtdkkadpcgemefaaRow
import Derived.Test.YtdkkadpcgemefaaDiskLaw
set_option linter.unusedVariables false
set_option linter.unusedSimpArgs false
namespace Sh
open Go Go.RowKit Go.Proofs
set_option maxRecDepth 100000 in
theorem read_act16 {H : Type} {enc : TypeId × Value → H} {w : World} {base : Nat} {spare : Nat → Bool} {held : Bool} {fuel : Nat} {cs : List Value} {x : DataW H × List MemPlace} (h : DataW.trod enc Try.prog w base spare held fuel 79 cs = some x) :
    ∃ a : Act16, cs = a.cells ∧ a.Good w.cell? := by
  obtain ⟨hl, n, hf⟩ := read_fields Try.underlying79 h
  have hl : cs.length = 5 := hl
  match cs, hl with
  | [c0, c1, c2, c3, c4], _ =>
    obtain ⟨y0, h0⟩ := hf 0 _ rfl
    obtain ⟨y1, h1⟩ := hf 1 _ rfl
    obtain ⟨y2, h2⟩ := hf 2 _ rfl
    obtain ⟨y3, h3⟩ := hf 3 _ rfl
    obtain ⟨y4, h4⟩ := hf 4 _ rfl
    obtain ⟨a0, e0, _⟩ := read_int Try.underlying3 h0
    obtain ⟨a1, e1, _⟩ := read_int Try.underlying3 h1
    obtain ⟨a2, e2, hn⟩ := read_int Try.underlying3 h2
    obtain ⟨a3, e3, hm⟩ := read_int Try.underlying67 h3
    obtain ⟨v4, l4, e4, hb⟩ := read_bytes Try.underlying22 Try.underlying5 (by kernel_rfl) h4
    obtain rfl : c0 = .int .i64 a0 := List.head_eq_of_cons_eq (show [c0] = [.int .i64 a0] from e0)
    obtain rfl : c1 = .int .i64 a1 := List.head_eq_of_cons_eq (show [c1] = [.int .i64 a1] from e1)
    obtain rfl : c2 = .int .i64 a2 := List.head_eq_of_cons_eq (show [c2] = [.int .i64 a2] from e2)
    obtain rfl : c3 = .int .u32 a3 := List.head_eq_of_cons_eq (show [c3] = [.int .u32 a3] from e3)
    obtain rfl : c4 = v4 := List.head_eq_of_cons_eq (show [c4] = [v4] from e4)
    exact ⟨⟨a0, a1, a2, a3, c4, l4⟩, rfl, hb, hn, hm⟩
end Sh
