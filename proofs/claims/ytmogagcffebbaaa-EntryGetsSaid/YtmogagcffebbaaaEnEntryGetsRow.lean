/- The row of the law EntryGets: for every input the law returns true, and its arguments read as before. -/
import Derived.Test.YtmogagcffebbaaaRows
import Derived.Test.YtmogagcffebbaaaEn2
import Derived.Test.YtmogagcffebbaaaEn18
import Derived.Test.YtmogagcffebbaaaEn14
set_option linter.unusedVariables false
set_option linter.unusedSimpArgs false
namespace Go.Proofs.Ytmogagcffebbaaa.entryGets
open Go.ChangeShapes Go.WideShapes Go.ChangeAt Go.RowKit Sh
open Go.ChangeMaps (open_string shut_string)
theorem own : ownKnob Try.prog.godebug = none := by kernel_rfl
theorem laidOut : laidOutB Try.prog = true := by kernel_rfl
set_option maxRecDepth 100000 in
theorem lifted (os : Os) (started : os.Started) (H : Type) (enc : TypeId × Value → H) :
    ReturnsInHanded {} Try.checked os 14 .any (Rows.entryGetsSpec.pre6 enc Try.prog Try.f14 Rows.entryGetsRow.domain false) (Rows.entryGetsSpec.post enc Try.prog Try.f14 false true false false) := by
  refine returnsInHanded_of_change_sized (C := Try.checked) own started (by kernel_rfl) Try.func14
    (ChangeSpec.witness6 (enc := enc) (C := Try.checked) false ⟨#[], #[.slice none 0 0], []⟩ 8 (by kernel_rfl) (by kernel_rfl) (by kernel_rfl) (by kernel_rfl)) ?_
  intro W base args ds gs before hval0 hW hcnd hsz0 _
  have hval : ∀ (j : Nat) t v, Try.f14.params[j]? = some t → args[j]? = some v → Value.okWide Try.prog W .any base t v := hval0
  have hW' := hW
  obtain ⟨p, q, hA0, hV, rfl, hfz, hnd⟩ := hW
  have hA : DataW.TrodAll enc Try.prog W 0 (fun _ => true) true Try.f14.params.toList args.toList ds p := hA0
  rw [Try.params14] at hA hval
  obtain ⟨v0, vs0, d0, ds0, p0, q0, hargs, rfl, rfl, h0, r0⟩ := trodAll_cons hA
  obtain ⟨rfl, rfl, rfl⟩ := trodAll_nil r0
  obtain rfl : args = #[v0] := by cases args; simp_all
  obtain ⟨rfl, rfl⟩ := trodVars_none hV
  have lt0 : ∀ x ∈ p0, x.block < W.heap.size := by obtain ⟨m, hm⟩ := h0; exact DataW.trod_lt m _ _ _ hm
  have k0 := h0
  obtain ⟨f0, g0⟩ := h0
  obtain ⟨a0, n0, c0, rfl⟩ := okWide_slice Try.underlying88 (hval 0 _ v0 rfl rfl)
  obtain ⟨u0, b0, e0, hb0, gd0⟩ := read_slice (α := (Value × List UInt8)) (f := (fun q => [q.1])) (Good := (fun q => RdB W.cell? q.1 q.2)) (sz := 1) (fun _ => rfl) (by decide) Try.underlying88 (by kernel_rfl) (fun fuel cs x hx => read_sec hx) g0
  simp [Value.cells] at e0
  subst e0
  clear hA0 hval0 hsz0
  refine (entryGets_walk W hb0 gd0).mono fun e W' ⟨he, bel⟩ => ?_
  subst he
  exact ⟨_, rfl, _, _, _, [], _, [], hW', trodAll_mk1 (shut_bool Try.underlying4 _), (trodAll_cons_mk (Below.trod laidOut (by kernel_rfl) (of_decide_eq_true (by kernel_rfl)) k0 bel lt0) trodAll_mk0), rfl, bel.frame _, fun h => by cases h⟩
set_option maxRecDepth 100000 in
theorem joined : joinedFacts Try.pinned.checked.prog 14 Try.f14 Rows.entryGetsSpec Rows.entryGetsRow = true := by
  have e1 : Try.pinned.checked.prog.mayEnter = true := enters.1
  have e2 : (Rows.entryGetsRow.lifted == Try.pinned.checked.prog.liftsFinal) = true := by rw [show Try.pinned.checked.prog.liftsFinal = false from enters.2.1]; rfl
  have e3 : (Try.pinned.checked.prog.make == some Rows.entryGetsRow.make) = true := by rw [show Try.pinned.checked.prog.make = some .cut from enters.2.2]; rfl
  simp only [joinedFacts, Bool.and_eq_true]
  repeat' (with_reducible refine And.intro ?_ ?_)
  all_goals first | (with_reducible exact e1) | (with_reducible exact e2) | (with_reducible exact e3) | kernel_rfl
theorem over : Rows.entryGetsRow.holds Try.pinned (OpenSpec.ofChange Rows.entryGetsSpec) :=
  OpenClaim.holds_of_wide 14 Try.f14 rfl rfl rfl rfl rfl rfl rfl ⟨rfl, rfl, rfl, rfl, rfl⟩ rfl rfl rfl rfl rfl (by kernel_rfl) Try.func14 joined
    (of_decide_eq_true (by kernel_rfl)) (by unfold Func.isWrapper; first | (rw [if_pos (by decide +kernel)]; kernel_rfl) | (rw [if_neg (by decide +kernel)]; exact ⟨rfl, rfl⟩))
    (fun os started H enc _ => lifted os started H enc)
end Go.Proofs.Ytmogagcffebbaaa.entryGets
namespace Go.Proofs.Ytmogagcffebbaaa
theorem entryGets_holds : Rows.EntryGetsSaid := entryGets.over
#print axioms entryGets_holds
end Go.Proofs.Ytmogagcffebbaaa
