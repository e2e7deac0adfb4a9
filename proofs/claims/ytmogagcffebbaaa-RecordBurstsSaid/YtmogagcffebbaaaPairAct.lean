/- How a pair of numbers ([2]int) reads as an argument. -/
import Derived.Test.YtmogagcffebbaaaRec
import Derived.Test.YtmogagcffebbaaaRow
import Derived.WideShapes
set_option linter.unusedVariables false
set_option linter.unusedSimpArgs false
namespace Sh
open Go Go.RowKit Go.Proofs
structure A2 where
  a : Int
  b : Int
def A2.cells (x : A2) : List Value := [.int .i64 x.a, .int .i64 x.b]
theorem okWide_array {P : Program} {w : World} {r : Reach} {base : Nat} {t e : TypeId} {n : Nat} {v : Value} (ht : P.underlying t = some (.array n e)) (h : Value.okWide P w r base t v) : ∃ cs, v = .agg cs ∧ cs.size = P.cellsOf t := by
  simp only [Value.okWide, ht] at h
  obtain ⟨cs, h1, h2, _⟩ := h
  exact ⟨cs, h1, h2⟩
set_option maxRecDepth 100000 in
theorem read_a2 {H : Type} {enc : TypeId × Value → H} {w : World} {base : Nat} {spare : Nat → Bool} {held : Bool} {fuel : Nat} {cs : List Value} {x : DataW H × List MemPlace} (h : DataW.trod enc Try.prog w base spare held fuel 120 cs = some x) :
    ∃ m : A2, cs = m.cells ∧ (IntKind.i64.min ≤ m.a ∧ m.a ≤ IntKind.i64.max) ∧ (IntKind.i64.min ≤ m.b ∧ m.b ≤ IntKind.i64.max) := by
  obtain ⟨xs, m, _, rfl, hl, hn, hx⟩ := DataW.trod_array Try.underlying120 h
  have hl : cs.length = 2 := hl
  match cs, hl with
  | [c0, c1], _ =>
    have g0 := (hx 0 (by decide)).trans (List.getElem?_eq_getElem (by omega))
    have g1 := (hx 1 (by decide)).trans (List.getElem?_eq_getElem (by omega))
    obtain ⟨a0, e0, w0⟩ := read_int Try.underlying3 g0
    obtain ⟨a1, e1, w1⟩ := read_int Try.underlying3 g1
    obtain rfl : c0 = .int .i64 a0 := List.head_eq_of_cons_eq (show [c0] = [.int .i64 a0] from e0)
    obtain rfl : c1 = .int .i64 a1 := List.head_eq_of_cons_eq (show [c1] = [.int .i64 a1] from e1)
    exact ⟨⟨a0, a1⟩, rfl, w0, w1⟩
end Sh
