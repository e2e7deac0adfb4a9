/- '[]byte(s)' of a text. -/
import Derived.Test.YtmogagcffebbaaaMsgMath
import Derived.Laws.IdiomStrings
set_option linter.unusedVariables false
set_option linter.unusedSimpArgs false
namespace Sh
open Go Go.RowKit Go.Proofs
attribute [local go_sem ↓] Go.wp_at_zero Go.wp_at_succ
set_option maxHeartbeats 1000000
set_option maxRecDepth 100000

theorem convBytes {w : World} {R : Snap} {L : Asrt} {s : ByteArray} (H : Holds w R L) (hs : s.size ≤ maxLen) :
    ∃ (a : Option Addr) (c : Nat) (w' : World), (convert 9 22 (.string s)).run Try.prog w = .ok (.slice a s.size c) w' ∧ ∃ R', R.le R' ∧ Holds w' R' L ∧ RdB R'.cell? (.slice a s.size c) (strB s) := by
  have hrun := run_bytes_of_string (P := Try.prog) w 9 22 5 s Try.underlying9 undBytes Try.underlying5
  obtain ⟨C, hC⟩ : ∃ C, C = bytesRow s (grownCap w s.size 0 5) := ⟨_, rfl⟩
  rw [← hC] at hrun
  obtain ⟨R', le', H', hb⟩ := H.drew.allocR (.cells C 5 (C.size, C.size + 1))
  refine ⟨_, _, _, hrun, R', le', H', ?_⟩
  have hb : R'.blk w.heap.size = some (.cells C 5 (C.size, C.size + 1)) := hb
  refine ⟨_, _, rfl, ?_, grownCap_le_maxLen w s.size 0 _ hs, by simp, (fun e => by cases e), ?_⟩
  · rw [strB_len]; exact grownCap_ge w s.size 0 _
  · intro b o t e j u hu
    simp only [Option.some.injEq, Addr.mk.injEq] at e
    obtain ⟨rfl, rfl, rfl⟩ := e
    refine ⟨rfl, ?_⟩
    unfold Snap.cell?
    simp only [hb, Nat.zero_add]
    have hj : j < (strB s).length := by
      have := (List.getElem?_eq_some_iff.1 hu).1
      rwa [u8s_length] at this
    rw [u8s_get _ _ hj] at hu
    rw [hC, bytesRow]
    have hj2 : j < s.data.size := by simpa [strB] using hj
    rw [Array.getElem?_append_left (by simpa using hj2)]
    simp only [Option.some.injEq] at hu
    subst hu
    simp [strB]
    exact ⟨s.data[j], Array.getElem?_eq_getElem hj2, rfl⟩
end Sh
