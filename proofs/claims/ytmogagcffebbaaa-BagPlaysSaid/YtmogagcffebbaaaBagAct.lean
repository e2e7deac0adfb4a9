/- How a message, and an act of the bag's law, read as arguments. -/
import Derived.Test.YtmogagcffebbaaaRow
import Derived.Test.YtmogagcffebbaaaBagFrz
set_option linter.unusedVariables false
set_option linter.unusedSimpArgs false
namespace Sh
open Go Go.RowKit Go.Proofs
section
variable {H : Type} {enc : TypeId × Value → H} {P : Program} {w : World} {base : Nat} {spare : Nat → Bool} {held : Bool} {fuel : Nat} {t e : TypeId} {cs : List Value} {x : DataW H × List MemPlace}
theorem read_ints (ht : P.underlying t = some (.slice e)) (he : P.underlying e = some (.int .i64)) (hc : P.cellsOf e = 1) (h : DataW.trod enc P w base spare held fuel t cs = some x) : ∃ (v : Value) (l : List Int), cs = [v] ∧ RdI w.cell? v l := by
  obtain ⟨v, l, h1, h2, _⟩ := read_slice (α := Int) (f := fun c => [.int .i64 c]) (Good := fun _ => True) (sz := 1) (fun _ => rfl) (by decide) ht hc (fun fuel cs x hx => by
    obtain ⟨n, rfl, h1, h2⟩ := read_int he hx
    exact ⟨n, rfl, trivial⟩) h
  refine ⟨v, l, h1, ?_⟩
  rw [flat_single] at h2
  exact h2
theorem read_strs (ht : P.underlying t = some (.slice e)) (he : P.underlying e = some .string) (hc : P.cellsOf e = 1) (h : DataW.trod enc P w base spare held fuel t cs = some x) : ∃ (v : Value) (l : List ByteArray), cs = [v] ∧ RdS w.cell? v l ∧ ∀ s ∈ l, s.size ≤ maxLen := by
  obtain ⟨v, l, h1, h2, h3⟩ := read_slice (α := ByteArray) (f := fun c => [.string c]) (Good := fun s => s.size ≤ maxLen) (sz := 1) (fun _ => rfl) (by decide) ht hc (fun fuel cs x hx => by
    obtain ⟨n, rfl, h1⟩ := read_string he hx
    exact ⟨n, rfl, h1⟩) h
  refine ⟨v, l, h1, ?_, h3⟩
  rw [flat_single] at h2
  exact h2
end
structure Act44 where
  kind : Int
  n : Int
  m : Ms
instance : Inhabited Act44 := ⟨⟨0, 0, default⟩⟩
def Act44.cells (a : Act44) : List Value := .int .i64 a.kind :: .int .i64 a.n :: a.m.cells
def Ms.Good (c : Addr → Option Value) (m : Ms) : Prop := m.Rd c ∧ m.name.size ≤ maxLen ∧ ∀ s ∈ m.names, s.size ≤ maxLen
def Act44.Good (c : Addr → Option Value) (a : Act44) : Prop := a.m.Good c
set_option maxRecDepth 100000 in
theorem read_msg {H : Type} {enc : TypeId × Value → H} {w : World} {base : Nat} {spare : Nat → Bool} {held : Bool} {fuel : Nat} {cs : List Value} {x : DataW H × List MemPlace} (h : DataW.trod enc Try.prog w base spare held fuel 63 cs = some x) :
    ∃ m : Ms, cs = m.cells ∧ m.Good w.cell? := by
  obtain ⟨hl, n, hf⟩ := read_fields Try.underlying63 h
  have hl : cs.length = 13 := hl
  match cs, hl with
  | [c0, c1, c2, c3, c4, c5, c6, c7, c8, c9, c10, c11, c12], _ =>
    obtain ⟨y0, h0⟩ := hf 0 _ rfl
    obtain ⟨y1, h1⟩ := hf 1 _ rfl
    obtain ⟨y2, h2⟩ := hf 2 _ rfl
    obtain ⟨y3, h3⟩ := hf 3 _ rfl
    obtain ⟨y4, h4⟩ := hf 4 _ rfl
    obtain ⟨y5, h5⟩ := hf 5 _ rfl
    obtain ⟨y6, h6⟩ := hf 6 _ rfl
    obtain ⟨y7, h7⟩ := hf 7 _ rfl
    obtain ⟨y8, h8⟩ := hf 8 _ rfl
    obtain ⟨y9, h9⟩ := hf 9 _ rfl
    obtain ⟨y10, h10⟩ := hf 10 _ rfl
    obtain ⟨y11, h11⟩ := hf 11 _ rfl
    obtain ⟨y12, h12⟩ := hf 12 _ rfl
    obtain ⟨a0, e0, _⟩ := read_int Try.underlying3 h0
    obtain ⟨a1, e1, _⟩ := read_int Try.underlying3 h1
    obtain ⟨a2, e2, _⟩ := read_int Try.underlying3 h2
    obtain ⟨a3, e3, _⟩ := read_int Try.underlying3 h3
    obtain ⟨a4, e4, g4⟩ := read_string Try.underlying9 h4
    obtain ⟨a5, e5, _⟩ := read_int Try.underlying3 h5
    obtain ⟨a6, e6, _⟩ := read_int Try.underlying3 h6
    obtain ⟨a7, e7, _⟩ := read_int Try.underlying3 h7
    obtain ⟨a8, e8, _⟩ := read_int Try.underlying3 h8
    obtain ⟨a9, e9, _⟩ := read_int Try.underlying3 h9
    obtain ⟨v10, l10, e10, r10⟩ := read_ints Try.underlying60 Try.underlying3 (by kernel_rfl) h10
    obtain ⟨v11, l11, e11, r11, s11⟩ := read_strs Try.underlying61 Try.underlying9 (by kernel_rfl) h11
    obtain ⟨v12, l12, e12, r12⟩ := read_bytes Try.underlying22 Try.underlying5 (by kernel_rfl) h12
    obtain rfl : c0 = .int .i64 a0 := List.head_eq_of_cons_eq (show [c0] = [.int .i64 a0] from e0)
    obtain rfl : c1 = .int .i64 a1 := List.head_eq_of_cons_eq (show [c1] = [.int .i64 a1] from e1)
    obtain rfl : c2 = .int .i64 a2 := List.head_eq_of_cons_eq (show [c2] = [.int .i64 a2] from e2)
    obtain rfl : c3 = .int .i64 a3 := List.head_eq_of_cons_eq (show [c3] = [.int .i64 a3] from e3)
    obtain rfl : c4 = .string a4 := List.head_eq_of_cons_eq (show [c4] = [.string a4] from e4)
    obtain rfl : c5 = .int .i64 a5 := List.head_eq_of_cons_eq (show [c5] = [.int .i64 a5] from e5)
    obtain rfl : c6 = .int .i64 a6 := List.head_eq_of_cons_eq (show [c6] = [.int .i64 a6] from e6)
    obtain rfl : c7 = .int .i64 a7 := List.head_eq_of_cons_eq (show [c7] = [.int .i64 a7] from e7)
    obtain rfl : c8 = .int .i64 a8 := List.head_eq_of_cons_eq (show [c8] = [.int .i64 a8] from e8)
    obtain rfl : c9 = .int .i64 a9 := List.head_eq_of_cons_eq (show [c9] = [.int .i64 a9] from e9)
    obtain rfl : c10 = v10 := List.head_eq_of_cons_eq (show [c10] = [v10] from e10)
    obtain rfl : c11 = v11 := List.head_eq_of_cons_eq (show [c11] = [v11] from e11)
    obtain rfl : c12 = v12 := List.head_eq_of_cons_eq (show [c12] = [v12] from e12)
    exact ⟨⟨a0, a1, a2, a3, a4, a5, a6, a7, a8, a9, c10, c11, c12, l10, l11, l12⟩, rfl, ⟨r10, r11, r12⟩, g4, s11⟩
set_option maxRecDepth 100000 in
theorem read_act44 {H : Type} {enc : TypeId × Value → H} {w : World} {base : Nat} {spare : Nat → Bool} {held : Bool} {fuel : Nat} {cs : List Value} {x : DataW H × List MemPlace} (h : DataW.trod enc Try.prog w base spare held fuel 65 cs = some x) :
    ∃ a : Act44, cs = a.cells ∧ a.Good w.cell? := by
  obtain ⟨hl, n, hf⟩ := read_fields Try.underlying65 h
  have hl : cs.length = 15 := hl
  match cs, hl with
  | c0 :: c1 :: rest, hl =>
    obtain ⟨y0, h0⟩ := hf 0 _ rfl
    obtain ⟨y1, h1⟩ := hf 1 _ rfl
    obtain ⟨y2, h2⟩ := hf 2 _ rfl
    obtain ⟨a0, e0, _⟩ := read_int Try.underlying3 h0
    obtain ⟨a1, e1, _⟩ := read_int Try.underlying3 h1
    obtain ⟨m, e2, g2⟩ := read_msg h2
    obtain rfl : c0 = .int .i64 a0 := List.head_eq_of_cons_eq (show [c0] = [.int .i64 a0] from e0)
    obtain rfl : c1 = .int .i64 a1 := List.head_eq_of_cons_eq (show [c1] = [.int .i64 a1] from e1)
    have e3 : rest = m.cells := by
      have h3 : rest.take 13 = m.cells := e2
      rw [← h3, List.take_of_length_le (by simp only [List.length_cons] at hl; omega)]
    exact ⟨⟨a0, a1, m⟩, by rw [e3]; rfl, g2⟩
end Sh
