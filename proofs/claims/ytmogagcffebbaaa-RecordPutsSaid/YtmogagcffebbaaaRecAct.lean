/- How a record reads as an argument. -/
import Derived.Test.YtmogagcffebbaaaRow
import Derived.Test.YtmogagcffebbaaaRec
set_option linter.unusedVariables false
set_option linter.unusedSimpArgs false
namespace Sh
open Go Go.RowKit Go.Proofs
set_option maxRecDepth 100000 in
theorem read_rec {H : Type} {enc : TypeId × Value → H} {w : World} {base : Nat} {spare : Nat → Bool} {held : Bool} {fuel : Nat} {cs : List Value} {x : DataW H × List MemPlace} (h : DataW.trod enc Try.prog w base spare held fuel 108 cs = some x) :
    ∃ m : Rc, cs = m.cells ∧ (m.Rd w.cell? ∧ m.name.size ≤ maxLen) := by
  obtain ⟨hl, n, hf⟩ := read_fields Try.underlying108 h
  have hl : cs.length = 7 := hl
  match cs, hl with
  | [c0, c1, c2, c3, c4, c5, c6], _ =>
    obtain ⟨y0, h0⟩ := hf 0 _ rfl
    obtain ⟨y1, h1⟩ := hf 1 _ rfl
    obtain ⟨y2, h2⟩ := hf 2 _ rfl
    obtain ⟨y3, h3⟩ := hf 3 _ rfl
    obtain ⟨y4, h4⟩ := hf 4 _ rfl
    obtain ⟨y5, h5⟩ := hf 5 _ rfl
    obtain ⟨y6, h6⟩ := hf 6 _ rfl
    obtain ⟨a0, e0, _⟩ := read_int Try.underlying3 h0
    obtain ⟨a1, e1, g1⟩ := read_string Try.underlying9 h1
    obtain ⟨a2, e2, _⟩ := read_int Try.underlying3 h2
    obtain ⟨a3, e3, _⟩ := read_int Try.underlying3 h3
    obtain ⟨a4, e4, _⟩ := read_int Try.underlying3 h4
    obtain ⟨a5, e5, _⟩ := read_int Try.underlying3 h5
    obtain ⟨v6, a6, e6, g6⟩ := read_bytes Try.underlying22 Try.underlying5 (by kernel_rfl) h6
    obtain rfl : c0 = .int .i64 a0 := List.head_eq_of_cons_eq (show [c0] = [.int .i64 a0] from e0)
    obtain rfl : c1 = .string a1 := List.head_eq_of_cons_eq (show [c1] = [.string a1] from e1)
    obtain rfl : c2 = .int .i64 a2 := List.head_eq_of_cons_eq (show [c2] = [.int .i64 a2] from e2)
    obtain rfl : c3 = .int .i64 a3 := List.head_eq_of_cons_eq (show [c3] = [.int .i64 a3] from e3)
    obtain rfl : c4 = .int .i64 a4 := List.head_eq_of_cons_eq (show [c4] = [.int .i64 a4] from e4)
    obtain rfl : c5 = .int .i64 a5 := List.head_eq_of_cons_eq (show [c5] = [.int .i64 a5] from e5)
    obtain rfl : c6 = v6 := List.head_eq_of_cons_eq (show [c6] = [v6] from e6)
    exact ⟨⟨a0, a1, a2, a3, a4, a5, c6, a6⟩, rfl, g6, g1⟩
end Sh
