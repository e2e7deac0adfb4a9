/- What All tells, read only; sizes go by what is said. -/
import Derived.Test.YtmogagcffebbaaaBagAll
import Derived.Test.YtmogagcffebbaaaBagHead
import Derived.Test.YtmogagcffebbaaaMsgAll
set_option linter.unusedVariables false
set_option linter.unusedSimpArgs false
namespace Sh
open Go Go.RowKit Go.Proofs
attribute [local go_sem ↓] Go.wp_at_zero Go.wp_at_succ
set_option maxHeartbeats 1000000
set_option maxRecDepth 100000

theorem Ms.Sz_con {m x : Ms} (h : m.con = x.con) (hz : x.Sz) : m.Sz := by
  simp only [Ms.con, Prod.mk.injEq] at h
  obtain ⟨_, h10, h11, h12, h13⟩ := h
  unfold Ms.Sz at *
  rw [h10, h11, h12, h13]; exact hz
theorem Sz_all {l k : List Ms} (h : l.map Ms.con = k.map Ms.con) (hz : ∀ m ∈ k, m.Sz) : ∀ m ∈ l, m.Sz := by
  intro m hm
  have h1 : m.con ∈ k.map Ms.con := by rw [← h]; exact List.mem_map_of_mem hm
  obtain ⟨x, hx, he⟩ := List.mem_map.1 h1
  exact Ms.Sz_con he.symm (hz x hx)
/-- All told messages' bytes are read from now on. -/
theorem Holds.freezeAll {w : World} : ∀ (l : List (Value × List UInt8)) {R : Snap} {L : Asrt}, Holds w R (star (bytesAll l) L) → ∃ R', R.le R' ∧ Holds w R' L ∧ ∀ q ∈ l, RdB R'.cell? q.1 q.2
  | [], R, L, H => ⟨R, Snap.le.refl _, by rw [bytesAll, emp_star] at H; exact H, by simp⟩
  | q :: l, R, L, H => by
    obtain ⟨R1, le1, H1, h1⟩ := (show Holds w R (star (rowB q.1 q.2) (star (bytesAll l) L)) from Holds.unstar H).freezeRow
    obtain ⟨R2, le2, H2, h2⟩ := Holds.freezeAll l H1
    refine ⟨R2, le1.trans le2, H2, fun x hx => ?_⟩
    rcases List.mem_cons.1 hx with rfl | hx
    · exact Rd.le h1 le2
    · exact h2 x hx
theorem two_of {α : Type} : ∀ {l : List α}, l.length = 2 → ∃ a b, l = [a, b]
  | [a, b], _ => ⟨a, b, rfl⟩
theorem three_of {α : Type} : ∀ {l : List α}, l.length = 3 → ∃ a b c, l = [a, b, c]
  | [a, b, c], _ => ⟨a, b, c, rfl⟩
/-- What All tells, read only. -/
theorem ball_frz {w : World} {R : Snap} {L : Asrt} {p : Nat} {l : List Ms} (H : Holds w R (star (bagA p l) L)) (hl : ∀ m ∈ l, m.Rd R.cell?) (hz : ∀ m ∈ l, m.Sz) (hn : l.length ≤ 100000) :
    Calls Try.prog 46 #[.pointer (some ⟨p, 0, none⟩)] w fun e w' => ∃ R', R.le R' ∧ ∃ (v' : Value) (M : List Ms), e = .returned v' ∧ M.map Ms.con = l.map Ms.con ∧ (∀ m ∈ M, m.Rd R'.cell?) ∧ Rd R'.cell? 13 v' M.length (M.flatMap Ms.cells) ∧ Holds w' R' (star (bagA p l) L) := by
  refine (ball_spec H hl hz hn).mono ?_
  rintro e w' ⟨R1, le1, v, M, he, hc, hf, H1⟩
  obtain ⟨R2, le2, H2, h2⟩ := H1.freezeRow
  obtain ⟨R3, le3, H3, h3⟩ := Holds.freezeAll _ H2
  exact ⟨R3, (le1.trans le2).trans le3, v, M, he, hc, fun m hm => ⟨Rd.le (hf m hm).1 (le2.trans le3), Rd.le (hf m hm).2 (le2.trans le3), h3 (m.vd, m.data) (List.mem_map_of_mem hm)⟩, Rd.le h2 le3, H3⟩
end Sh
