/- Sectors: a slice of slices that is read. -/
import Derived.Test.YtmogagcffebbaaaMem
set_option linter.unusedVariables false
set_option linter.unusedSimpArgs false
namespace Sh
open Go Go.RowKit Go.Proofs
attribute [local go_sem ↓] Go.wp_at_zero Go.wp_at_succ
set_option maxHeartbeats 1000000
set_option maxRecDepth 100000

def RdBB (c : Addr → Option Value) (v : Value) (ss : List (Value × List UInt8)) : Prop := Rd c 1 v ss.length (ss.map Prod.fst) ∧ ∀ q ∈ ss, RdB c q.1 q.2
theorem RdBB.le {R R' : Snap} {v : Value} {ss : List (Value × List UInt8)} (h : RdBB R.cell? v ss) (l : R.le R') : RdBB R'.cell? v ss := ⟨Rd.le h.1 l, fun q hq => Rd.le (h.2 q hq) l⟩
theorem RdBB.world {w : World} {R : Snap} {L : Asrt} {v : Value} {ss : List (Value × List UInt8)} (h : RdBB R.cell? v ss) (H : Holds w R L) : RdBB w.cell? v ss := ⟨Rd.world h.1 H, fun q hq => Rd.world (h.2 q hq) H⟩
theorem RdBB.form {c : Addr → Option Value} {v : Value} {ss : List (Value × List UInt8)} (h : RdBB c v ss) : ∃ a cap, v = .slice a ss.length cap := Rd.form h.1
theorem RdBB.at {c : Addr → Option Value} {a : Option Addr} {cap : Nat} {ss : List (Value × List UInt8)} (h : RdBB c (.slice a ss.length cap) ss) {j : Nat} (hj : j < ss.length) :
    ∃ b o, a = some ⟨b, o, none⟩ ∧ c ⟨b, o + j, none⟩ = some ss[j].1 ∧ RdB c ss[j].1 ss[j].2 := by
  obtain ⟨h1, h2⟩ := h
  obtain ⟨b, o, h3, h4⟩ := Rd.open h1 (by omega)
  exact ⟨b, o, h3, h4 j _ (by rw [List.getElem?_map, List.getElem?_eq_getElem hj]; rfl), h2 _ (List.getElem_mem hj)⟩
theorem RdBB.sub {c : Addr → Option Value} {a : Option Addr} {cap : Nat} {ss : List (Value × List UInt8)} (h : RdBB c (.slice a ss.length cap) ss) (lo hi cap' : Nat) (h1 : lo ≤ hi) (h2 : hi ≤ ss.length) (h3 : hi ≤ cap') (h4 : cap' ≤ cap) :
    RdBB c (.slice (adr a cap' lo 1) (hi - lo) (cap' - lo)) ((ss.drop lo).take (hi - lo)) := by
  have e : ((ss.drop lo).take (hi - lo)).length = hi - lo := by rw [List.length_take, List.length_drop]; omega
  refine ⟨?_, fun q hq => h.2 q (List.mem_of_mem_drop (List.mem_of_mem_take hq))⟩
  rw [e, List.map_take, List.map_drop]
  have := Rd.sub h.1 lo hi cap' h1 h2 h3 h4
  rwa [Nat.mul_one, Nat.mul_one] at this
theorem RdBB.bounds {c : Addr → Option Value} {a : Option Addr} {cap : Nat} {ss : List (Value × List UInt8)} (h : RdBB c (.slice a ss.length cap) ss) : ss.length ≤ cap ∧ cap ≤ maxLen := ⟨(Rd.bounds h.1).1, (Rd.bounds h.1).2.1⟩
theorem freezeAll {w : World} : ∀ (q : List (Value × List UInt8)) {R : Snap} {L : Asrt}, Holds w R (star (bytesAll q) L) → ∃ R', R.le R' ∧ Holds w R' L ∧ ∀ x ∈ q, RdB R'.cell? x.1 x.2
  | [], R, L, H => ⟨R, Snap.le.refl _, H.ac (emp_star L), fun _ h => by cases h⟩
  | x :: q, R, L, H => by
    have H1 : Holds w R (star (rowB x.1 x.2) (star (bytesAll q) L)) := H.unstar
    obtain ⟨R1, le1, H2, h1⟩ := H1.freezeRow
    obtain ⟨R2, le2, H3, h2⟩ := freezeAll q H2
    refine ⟨R2, le1.trans le2, H3, fun y hy => ?_⟩
    rcases List.mem_cons.1 hy with rfl | hy
    · exact Rd.le h1 le2
    · exact h2 y hy
theorem freezeBB {w : World} {R : Snap} {L : Asrt} {o : Value} {q : List (Value × List UInt8)} (H : Holds w R (star (row tBytes 1 o q.length (q.map Prod.fst)) (star (bytesAll q) L))) : ∃ R', R.le R' ∧ Holds w R' L ∧ RdBB R'.cell? o q := by
  obtain ⟨R1, le1, H1, h1⟩ := H.freezeRow
  obtain ⟨R2, le2, H2, h2⟩ := freezeAll q H1
  exact ⟨R2, le1.trans le2, H2, Rd.le h1 le2, h2⟩
end Sh
