/- How an argument of super's laws reads. -/
import Derived.Test.YtdkkadpcgemefaaRow
import Derived.Test.YtdkkadpcgemefaaSuperLaw
set_option linter.unusedVariables false
set_option linter.unusedSimpArgs false
namespace Sh
open Go Go.RowKit Go.Proofs
structure Sup3 where
  f : Int
  d : Int
  s : Int
def Sup3.cells (a : Sup3) : List Value := [.int .i64 a.f, .int .i64 a.d, .int .i64 a.s]
def Sup3.Good (a : Sup3) : Prop := (IntKind.i64.min ≤ a.f ∧ a.f ≤ IntKind.i64.max) ∧ (IntKind.i64.min ≤ a.d ∧ a.d ≤ IntKind.i64.max) ∧ (IntKind.i64.min ≤ a.s ∧ a.s ≤ IntKind.i64.max)
set_option maxRecDepth 100000 in
theorem read_super {H : Type} {enc : TypeId × Value → H} {w : World} {base : Nat} {spare : Nat → Bool} {held : Bool} {fuel : Nat} {cs : List Value} {x : DataW H × List MemPlace} (h : DataW.trod enc Try.prog w base spare held fuel 146 cs = some x) :
    ∃ a : Sup3, cs = a.cells ∧ a.Good := by
  obtain ⟨hl, n, hf⟩ := read_fields Try.underlying146 h
  have hl : cs.length = 3 := hl
  match cs, hl with
  | [c0, c1, c2], _ =>
    obtain ⟨y0, h0⟩ := hf 0 _ rfl
    obtain ⟨y1, h1⟩ := hf 1 _ rfl
    obtain ⟨y2, h2⟩ := hf 2 _ rfl
    obtain ⟨a0, e0, g0⟩ := read_int Try.underlying3 h0
    obtain ⟨a1, e1, g1⟩ := read_int Try.underlying3 h1
    obtain ⟨a2, e2, g2⟩ := read_int Try.underlying3 h2
    obtain rfl : c0 = .int .i64 a0 := List.head_eq_of_cons_eq (show [c0] = [.int .i64 a0] from e0)
    obtain rfl : c1 = .int .i64 a1 := List.head_eq_of_cons_eq (show [c1] = [.int .i64 a1] from e1)
    obtain rfl : c2 = .int .i64 a2 := List.head_eq_of_cons_eq (show [c2] = [.int .i64 a2] from e2)
    exact ⟨⟨a0, a1, a2⟩, rfl, g0, g1, g2⟩
theorem superPuts_walk (W : World) {a : Sup3} (h : a.Good) :
    Calls Try.prog 21 #[.agg a.cells.toArray] W fun e w' => e = .returned (.bool true) ∧ Below W.heap.size W w' := superPuts_core W h.1 h.2.1 h.2.2
end Sh
