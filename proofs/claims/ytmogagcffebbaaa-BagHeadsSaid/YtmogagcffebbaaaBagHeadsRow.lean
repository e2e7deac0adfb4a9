/- The row of the law BagHeads: for every input the law returns true, and its arguments read as before. -/
import Derived.Test.YtmogagcffebbaaaRows
import Derived.Test.YtmogagcffebbaaaRow
import Derived.Test.YtmogagcffebbaaaEnter
import Derived.Test.YtmogagcffebbaaaBagHeads
import Derived.Test.YtmogagcffebbaaaBagAct
set_option linter.unusedVariables false
set_option linter.unusedSimpArgs false
namespace Go.Proofs.Ytmogagcffebbaaa.bagHeads
open Go.ChangeShapes Go.WideShapes Go.ChangeAt Go.RowKit Sh
open Go.ChangeMaps (open_string shut_string)
theorem own : ownKnob Try.prog.godebug = none := by kernel_rfl
theorem laidOut : laidOutB Try.prog = true := by kernel_rfl
set_option maxRecDepth 100000 in
theorem lifted (os : Os) (started : os.Started) (H : Type) (enc : TypeId × Value → H) :
    ReturnsInHanded {} Try.checked os 7 .any (Rows.bagHeadsSpec.pre6 enc Try.prog Try.f7 Rows.bagHeadsRow.domain false) (Rows.bagHeadsSpec.post enc Try.prog Try.f7 false true false false) := by
  refine returnsInHanded_of_change_sized (C := Try.checked) own started (by kernel_rfl) Try.func7
    (ChangeSpec.witness6 (enc := enc) (C := Try.checked) false ⟨#[], #[.agg #[.int .i64 0, .int .i64 0, .int .i64 0, .int .i64 0, .string ByteArray.empty, .int .i64 0, .int .i64 0, .int .i64 0, .int .i64 0, .int .i64 0, .slice none 0 0, .slice none 0 0, .slice none 0 0], .slice none 0 0], []⟩ 8 (by kernel_rfl) (by kernel_rfl) (by kernel_rfl) (by kernel_rfl)) ?_
  intro W base args ds gs before hval0 hW hcnd hsz0 _
  have hval : ∀ (j : Nat) t v, Try.f7.params[j]? = some t → args[j]? = some v → Value.okWide Try.prog W .any base t v := hval0
  have hW' := hW
  obtain ⟨p, q, hA0, hV, rfl, hfz, hnd⟩ := hW
  have hA : DataW.TrodAll enc Try.prog W 0 (fun _ => true) true Try.f7.params.toList args.toList ds p := hA0
  rw [Try.params7] at hA hval
  obtain ⟨v0, vs0, d0, ds0, p0, q0, hargs, rfl, rfl, h0, r0⟩ := trodAll_cons hA
  obtain ⟨v1, vs1, d1, ds1, p1, q1, rfl, rfl, rfl, h1, r1⟩ := trodAll_cons r0
  obtain ⟨rfl, rfl, rfl⟩ := trodAll_nil r1
  obtain rfl : args = #[v0, v1] := by cases args; simp_all
  obtain ⟨rfl, rfl⟩ := trodVars_none hV
  have lt0 : ∀ x ∈ p0, x.block < W.heap.size := by obtain ⟨m, hm⟩ := h0; exact DataW.trod_lt m _ _ _ hm
  have k0 := h0
  obtain ⟨f0, g0⟩ := h0
  obtain ⟨cs0, rfl, _⟩ := okWide_struct Try.underlying63 (hval 0 _ v0 rfl rfl)
  obtain ⟨b0, e0, gd0⟩ := read_msg g0
  obtain rfl : cs0 = b0.cells.toArray := by have h := e0; simp only [Value.cells] at h; rw [← h]
  have lt1 : ∀ x ∈ p1, x.block < W.heap.size := by obtain ⟨m, hm⟩ := h1; exact DataW.trod_lt m _ _ _ hm
  have k1 := h1
  obtain ⟨f1, g1⟩ := h1
  obtain ⟨a1, n1, c1, rfl⟩ := okWide_slice Try.underlying22 (hval 1 _ v1 rfl rfl)
  obtain ⟨u1, b1, e1, hb1⟩ := read_bytes Try.underlying22 Try.underlying5 (by kernel_rfl) g1
  simp [Value.cells] at e1
  subst e1
  clear hA0 hval0 hsz0
  refine (bagHeads_walk W gd0 hb1).mono fun e W' ⟨he, bel⟩ => ?_
  subst he
  exact ⟨_, rfl, _, _, _, [], _, [], hW', trodAll_mk1 (shut_bool Try.underlying4 _), (trodAll_cons_mk (Below.trod laidOut (by kernel_rfl) (of_decide_eq_true (by kernel_rfl)) k0 bel lt0) (trodAll_cons_mk (Below.trod laidOut (by kernel_rfl) (of_decide_eq_true (by kernel_rfl)) k1 bel lt1) trodAll_mk0)), rfl, bel.frame _, fun h => by cases h⟩
set_option maxRecDepth 100000 in
theorem joined : joinedFacts Try.pinned.checked.prog 7 Try.f7 Rows.bagHeadsSpec Rows.bagHeadsRow = true := by
  have e1 : Try.pinned.checked.prog.mayEnter = true := enters.1
  have e2 : (Rows.bagHeadsRow.lifted == Try.pinned.checked.prog.liftsFinal) = true := by rw [show Try.pinned.checked.prog.liftsFinal = false from enters.2.1]; rfl
  have e3 : (Try.pinned.checked.prog.make == some Rows.bagHeadsRow.make) = true := by rw [show Try.pinned.checked.prog.make = some .cut from enters.2.2]; rfl
  simp only [joinedFacts, Bool.and_eq_true]
  repeat' (with_reducible refine And.intro ?_ ?_)
  all_goals first | (with_reducible exact e1) | (with_reducible exact e2) | (with_reducible exact e3) | kernel_rfl
theorem over : Rows.bagHeadsRow.holds Try.pinned (OpenSpec.ofChange Rows.bagHeadsSpec) :=
  OpenClaim.holds_of_wide 7 Try.f7 rfl rfl rfl rfl rfl rfl rfl ⟨rfl, rfl, rfl, rfl, rfl⟩ rfl rfl rfl rfl rfl (by kernel_rfl) Try.func7 joined
    (of_decide_eq_true (by kernel_rfl)) (by unfold Func.isWrapper; first | (rw [if_pos (by decide +kernel)]; kernel_rfl) | (rw [if_neg (by decide +kernel)]; exact ⟨rfl, rfl⟩))
    (fun os started H enc _ => lifted os started H enc)
end Go.Proofs.Ytmogagcffebbaaa.bagHeads
namespace Go.Proofs.Ytmogagcffebbaaa
theorem bagHeads_holds : Rows.BagHeadsSaid := bagHeads.over
#print axioms bagHeads_holds
end Go.Proofs.Ytmogagcffebbaaa
