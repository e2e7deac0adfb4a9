/- The program's head: a cut that may be entered. (The kernel reads a long head's text slowly: here its signs come by a lemma.) -/
import Derived.Test.YtmogagcffebbaaaProg
import Derived.JoinedOf
import Derived.KernelRfl
set_option linter.unusedVariables false
set_option linter.unusedSimpArgs false
set_option maxRecDepth 100000
namespace Sh
open Go Go.Proofs
theorem enter_cut {P : Program} (h : (behindMainWord (wordsSigns P.initOrder.toList)).head? = some "cut".toList) (hd : P.doorFits [] = true) (hl : P.laysLater = false) (hr : P.bearsReflect = false) :
    P.mayEnter = true ∧ P.liftsFinal = false ∧ P.make = some .cut := by
  unfold Program.mayEnter Program.liftsFinal Program.make Program.headLifts
  generalize behindMainWord (wordsSigns P.initOrder.toList) = ws at h ⊢
  cases ws with
  | nil => cases h
  | cons c rest =>
    simp only [List.head?_cons, Option.some.injEq] at h
    subst h
    have e : stripLifts liftWords ("cut".toList :: rest) = ([], "cut".toList :: rest) := by
      simp only [liftWords, stripLifts]; rfl
    dsimp only
    simp only [e, hd, hl, hr]
    refine ⟨by rfl, by rfl, by rfl⟩
theorem headSigns : ∃ l : List Char, Try.prog.initOrder.toList = l ∧ (behindMainWord (wordsSigns l)).head? = some "cut".toList := ⟨_, String.toList_ofList, by kernel_rfl⟩
theorem enters : Try.prog.mayEnter = true ∧ Try.prog.liftsFinal = false ∧ Try.prog.make = some .cut := by
  obtain ⟨l, h1, h2⟩ := headSigns
  exact enter_cut (by rw [h1]; exact h2) (by kernel_rfl) (by kernel_rfl) (by kernel_rfl)
end Sh
