/- The row of the law JournalDoes: for every input the law returns true, and its arguments read as before. -/
import Derived.Test.YtmogagcffebbaaaRows
import Derived.Test.YtmogagcffebbaaaJd2
import Derived.Test.YtmogagcffebbaaaJd21
set_option linter.unusedVariables false
set_option linter.unusedSimpArgs false
namespace Go.Proofs.Ytmogagcffebbaaa.journalDoes
open Go.ChangeShapes Go.WideShapes Go.ChangeAt Go.RowKit Sh
open Go.ChangeMaps (open_string shut_string)
theorem own : ownKnob Try.prog.godebug = none := by kernel_rfl
theorem laidOut : laidOutB Try.prog = true := by kernel_rfl
set_option maxRecDepth 100000 in
theorem lifted (os : Os) (started : os.Started) (H : Type) (enc : TypeId × Value → H) :
    ReturnsInHanded {} Try.checked os 19 .any (Rows.journalDoesSpec.pre6 enc Try.prog Try.f19 Rows.journalDoesRow.domain false) (Rows.journalDoesSpec.post enc Try.prog Try.f19 false true false false) := by
  refine returnsInHanded_of_change_sized (C := Try.checked) own started (by kernel_rfl) Try.func19
    (ChangeSpec.witness6 (enc := enc) (C := Try.checked) false ⟨#[], #[.int .u8 0, .slice none 0 0, .agg #[.int .i64 0, .int .i64 0]], []⟩ 8 (by kernel_rfl) (by kernel_rfl) (by kernel_rfl) (by kernel_rfl)) ?_
  intro W base args ds gs before hval0 hW hcnd hsz0 _
  have hval : ∀ (j : Nat) t v, Try.f19.params[j]? = some t → args[j]? = some v → Value.okWide Try.prog W .any base t v := hval0
  have hW' := hW
  obtain ⟨p, q, hA0, hV, rfl, hfz, hnd⟩ := hW
  have hA : DataW.TrodAll enc Try.prog W 0 (fun _ => true) true Try.f19.params.toList args.toList ds p := hA0
  rw [Try.params19] at hA hval
  obtain ⟨v0, vs0, d0, ds0, p0, q0, hargs, rfl, rfl, h0, r0⟩ := trodAll_cons hA
  obtain ⟨v1, vs1, d1, ds1, p1, q1, rfl, rfl, rfl, h1, r1⟩ := trodAll_cons r0
  obtain ⟨v2, vs2, d2, ds2, p2, q2, rfl, rfl, rfl, h2, r2⟩ := trodAll_cons r1
  obtain ⟨rfl, rfl, rfl⟩ := trodAll_nil r2
  obtain rfl : args = #[v0, v1, v2] := by cases args; simp_all
  obtain ⟨rfl, rfl⟩ := trodVars_none hV
  obtain ⟨n0, rfl, rfl, rfl, w0⟩ := open_int Try.underlying5 (hval 0 _ v0 rfl rfl) h0
  have lt1 : ∀ x ∈ p1, x.block < W.heap.size := by obtain ⟨m, hm⟩ := h1; exact DataW.trod_lt m _ _ _ hm
  have k1 := h1
  obtain ⟨f1, g1⟩ := h1
  obtain ⟨a1, n1, c1, rfl⟩ := okWide_slice Try.underlying93 (hval 1 _ v1 rfl rfl)
  obtain ⟨u1, b1, e1, hb1, gd1⟩ := read_slice (α := Ch) (f := Ch.cells) (Good := (fun x => RdB W.cell? x.v x.data)) (sz := 2) (fun _ => rfl) (by decide) Try.underlying93 (by kernel_rfl) (fun fuel cs x hx => read_ch hx) g1
  simp [Value.cells] at e1
  subst e1
  have lt2 : ∀ x ∈ p2, x.block < W.heap.size := by obtain ⟨m, hm⟩ := h2; exact DataW.trod_lt m _ _ _ hm
  have k2 := h2
  obtain ⟨f2, g2⟩ := h2
  obtain ⟨cs2, rfl, _⟩ := okWide_array Try.underlying120 (hval 2 _ v2 rfl rfl)
  obtain ⟨b2, e2, gd2⟩ := read_a2 g2
  obtain rfl : cs2 = b2.cells.toArray := by have h := e2; simp only [Value.cells] at h; rw [← h]
  clear hA0 hval0 hsz0
  refine (journalDoes_walk W (wf_bounds w0) hb1 gd1 gd2.1 gd2.2).mono fun e W' ⟨he, bel⟩ => ?_
  subst he
  exact ⟨_, rfl, _, _, _, [], _, [], hW', trodAll_mk1 (shut_bool Try.underlying4 _), (trodAll_cons_mk (shut_int Try.underlying5 w0) (trodAll_cons_mk (Below.trod laidOut (by kernel_rfl) (of_decide_eq_true (by kernel_rfl)) k1 bel lt1) (trodAll_cons_mk (Below.trod laidOut (by kernel_rfl) (of_decide_eq_true (by kernel_rfl)) k2 bel lt2) trodAll_mk0))), rfl, bel.frame _, fun h => by cases h⟩
set_option maxRecDepth 100000 in
theorem joined : joinedFacts Try.pinned.checked.prog 19 Try.f19 Rows.journalDoesSpec Rows.journalDoesRow = true := by
  have e1 : Try.pinned.checked.prog.mayEnter = true := enters.1
  have e2 : (Rows.journalDoesRow.lifted == Try.pinned.checked.prog.liftsFinal) = true := by rw [show Try.pinned.checked.prog.liftsFinal = false from enters.2.1]; rfl
  have e3 : (Try.pinned.checked.prog.make == some Rows.journalDoesRow.make) = true := by rw [show Try.pinned.checked.prog.make = some .cut from enters.2.2]; rfl
  simp only [joinedFacts, Bool.and_eq_true]
  repeat' (with_reducible refine And.intro ?_ ?_)
  all_goals first | (with_reducible exact e1) | (with_reducible exact e2) | (with_reducible exact e3) | kernel_rfl
theorem over : Rows.journalDoesRow.holds Try.pinned (OpenSpec.ofChange Rows.journalDoesSpec) :=
  OpenClaim.holds_of_wide 19 Try.f19 rfl rfl rfl rfl rfl rfl rfl ⟨rfl, rfl, rfl, rfl, rfl⟩ rfl rfl rfl rfl rfl (by kernel_rfl) Try.func19 joined
    (of_decide_eq_true (by kernel_rfl)) (by unfold Func.isWrapper; first | (rw [if_pos (by decide +kernel)]; kernel_rfl) | (rw [if_neg (by decide +kernel)]; exact ⟨rfl, rfl⟩))
    (fun os started H enc _ => lifted os started H enc)
end Go.Proofs.Ytmogagcffebbaaa.journalDoes
namespace Go.Proofs.Ytmogagcffebbaaa
theorem journalDoes_holds : Rows.JournalDoesSaid := journalDoes.over
#print axioms journalDoes_holds
end Go.Proofs.Ytmogagcffebbaaa
