/- A range over a function, over what a world holds: a round's regions by their plain walk; what the loop's own book-keeping keeps. -/
import Derived.Test.YtmogagcffebbaaaMem
import Derived.RangeFuncFrom
import Derived.RangeFuncLeaves
import Derived.RangeFuncCalls
import Derived.OwnWalkIn
set_option linter.unusedVariables false
set_option linter.unusedSimpArgs false
namespace Sh
open Go Go.RowKit Go.Proofs
attribute [local go_sem ↓] Go.wp_at_zero Go.wp_at_succ
set_option maxHeartbeats 1000000
set_option maxRecDepth 100000

/-! ### What a round's operations do -/
def Op.noDefer : Op → Bool
  | .defer _ => false
  | _ => true
theorem noDefer_spec {o : Oper} (h : Sh.Op.noDefer o.op = true) : ∀ c, o.op ≠ .defer c := by
  intro c e; rw [e] at h; cases h
theorem calls_round {l n : Nat} {P : Program} {f : FuncId} {args : Array Value} {w : World} {R : Ending → World → Prop} (h : Calls P f args w R) : CallsIn (Fence.wide.inRound l) n P f args w R :=
  CallsIn.inRound l (callsIn_wide.2 h)
theorem rows_round {l n : Nat} {P : Program} {r : String} {args : Array Value} {w : World} {R : Value → World → Prop} (h : Rows P r args w R) : RowsIn (Fence.wide.inRound l) n P r args w R := by
  intro c cs _
  obtain ⟨v, w', hR, hs⟩ := h c cs
  exact ⟨v, w', hR, by rw [fenced_inRound]; exact stepsIn_wide.2 hs⟩
theorem upon_round {l n : Nat} {P : Program} {o : Oper} {a : Act} {K K' : Act → World → Prop} {Q : Exit → Act → World → Prop} (hK : ∀ a w, K a w → K' a w) : ∀ {r : Result Next}, o.upon P a K Q r → o.uponIn (Fence.wide.inRound l) n P a K' Q r := by
  intro r h
  have hd : (Fence.wide.inRound l).depth.isSome = true → 1 ≤ n := fun h => by cases h
  cases r with
  | ok nx w =>
    cases nx with
    | value v => exact hK _ _ h
    | skip => exact hK _ _ h
    | defer d => exact hK _ _ h
    | enter f args =>
      refine ⟨hd, calls_round (Calls.mono h fun e w' he => ?_)⟩
      cases e with
      | returned v => exact hK _ _ he
      | panicked c => exact he
      | outgrown => exact he
    | row r args => exact ⟨hd, rows_round (Rows.mono h fun v w' he => hK _ _ he)⟩
    | _ => exact h.elim
  | halt x w =>
    cases x with
    | panic v => exact h
    | _ => exact h.elim
theorem list_round {l n : Nat} {P : Program} {ops : Array Oper} {Q : Exit → Act → World → Prop} (hL : ¬ LetsOut Q) : ∀ (os : List Oper), (∀ o ∈ os, Sh.Op.noDefer o.op = true) → ∀ (a : Act) (w : World), wpList P ops Q os a w → wpListIn (Fence.wide.inRound l) n P ops Q os a w
  | [], _, _, _, h => h
  | o :: os, hd, a, w, h => by
    have ih := list_round (l := l) (n := n) (P := P) (ops := ops) hL os (fun x hx => hd x (List.mem_cons_of_mem _ hx))
    unfold wpList at h
    unfold wpListIn
    by_cases hw : Region.wanted o (yielded ops a.tmps) = true
    · rw [if_pos hw] at h ⊢
      rcases h with h | ⟨_, h⟩
      · refine ⟨fun _ _ => trivial, ?_⟩
        rw [Oper.semAt_plain _ _ _ (noDefer_spec (hd o List.mem_cons_self))]
        exact upon_round ih h
      · exact absurd h hL
    · rw [if_neg hw] at h ⊢
      exact ⟨fun _ _ => trivial, ih _ _ h⟩
theorem op_round {l n : Nat} {P : Program} {ops : Array Oper} {Q : Exit → Act → World → Prop} (hL : ¬ LetsOut Q) (hd : ∀ o ∈ ops.toList, Sh.Op.noDefer o.op = true) {i : Nat} {K K' : Act → World → Prop} (hK : ∀ a w, K a w → K' a w) {a : Act} {w : World} (h : wpOp P ops Q i K a w) : wpOpIn (Fence.wide.inRound l) n P ops Q i K' a w := by
  unfold wpOp at h
  unfold wpOpIn
  cases ho : ops[i]? with
  | none => rw [ho] at h; exact hK _ _ h
  | some o =>
    rw [ho] at h
    simp only at h ⊢
    by_cases hw : Region.wanted o (yielded ops a.tmps) = true
    · rw [if_pos hw] at h ⊢
      rcases h with h | ⟨_, h⟩
      · refine ⟨fun _ _ => trivial, ?_⟩
        rw [Oper.semAt_plain _ _ _ (noDefer_spec (hd o (List.mem_of_getElem? (by rw [Array.getElem?_toList]; exact ho))))]
        exact upon_round hK h
      · exact absurd h hL
    · rw [if_neg hw] at h ⊢
      exact ⟨fun _ _ => trivial, hK _ _ h⟩
theorem any_round {l n : Nat} {P : Program} {md : Region.Mode} {ops : Array Oper} {Q : Exit → Act → World → Prop} (hL : ¬ LetsOut Q) (hd : ∀ o ∈ ops.toList, Sh.Op.noDefer o.op = true) : ∀ (fuel : Nat) (listed : Array Bool) (a : Act) (w : World), wpAny P md ops Q fuel listed a w → wpAnyIn (Fence.wide.inRound l) n P md ops Q fuel listed a w
  | 0, _, _, _, h => h
  | fuel + 1, listed, a, w, h => ⟨h.1, fun i hi => op_round hL hd (fun a w h => any_round hL hd fuel _ a w h) (h.2 i hi)⟩
theorem lets_then {K : Act → World → Prop} {Q : Exit → Act → World → Prop} (h : ¬ LetsOut Q) : ¬ LetsOut (Exit.then K Q) := fun ⟨a, w, q⟩ => h ⟨a, w, q⟩
/-- A region in a round, and what follows. -/
theorem seq_round {l n : Nat} {P : Program} {id : Nat} {os : List Oper} {rest : Code} {Q : Exit → Act → World → Prop} {a : Act} {w : World} (hd : os.all (fun o => Sh.Op.noDefer o.op) = true) (hL : ¬ LetsOut Q)
    (h : ∀ K : Act → World → Prop, (∀ a w, rest.wpIn (Fence.wide.inRound l) n P Q a w → K a w) → wpList P os.toArray (Exit.then K Q) os a w) : (Code.seq (Code.region id os.toArray false) rest).wpIn (Fence.wide.inRound l) n P Q a w :=
  wpIn_seq_k fun K hK => wpIn_region_lit (list_round (lets_then hL) os (List.all_eq_true.1 hd) a w (h K hK))
theorem last_round {l n : Nat} {P : Program} {id : Nat} {os : List Oper} {Q : Exit → Act → World → Prop} {a : Act} {w : World} (hd : os.all (fun o => Sh.Op.noDefer o.op) = true) (hL : ¬ LetsOut Q)
    (h : wpList P os.toArray Q os a w) : (Code.region id os.toArray false).wpIn (Fence.wide.inRound l) n P Q a w :=
  wpIn_region_lit (list_round hL os (List.all_eq_true.1 hd) a w h)
theorem draw_round {l n : Nat} {P : Program} {id : Nat} {os : List Oper} {Q : Exit → Act → World → Prop} {a : Act} {w : World} (hm : P.follows .mixedOrders = true) (hd : os.all (fun o => Sh.Op.noDefer o.op) = true) (hL : ¬ LetsOut Q)
    (h : wpAny P .any os.toArray Q os.length (Array.replicate os.length false) a w.drew) : (Code.region id os.toArray true).wpIn (Fence.wide.inRound l) n P Q a w :=
  wpIn_region_any hm (any_round hL (List.all_eq_true.1 hd) _ _ _ _ h)
/-! ### What is owned and is cells -/
def Asrt.celly (L : Asrt) : Prop := ∀ h F, L.on h F → ∀ i, F i → ∃ cs t fr, h i = some (.cells cs t fr)
theorem celly_emp : emp.celly := fun _ _ h i hi => absurd hi (h i)
theorem celly_star {A B : Asrt} (ha : A.celly) (hb : B.celly) : (star A B).celly := by
  rintro h F ⟨F1, F2, a, b, _, e⟩ i hi
  rcases (e i).1 hi with h1 | h1
  · exact ha h F1 a i h1
  · exact hb h F2 b i h1
theorem celly_blk (b : Nat) (cs : Array Value) (t : TypeId) : (blk b cs t).celly := fun h F ⟨a, e⟩ i hi => ⟨cs, t, (0, 0), by rw [(e i).1 hi]; exact a⟩
theorem celly_row (t : TypeId) (size : Nat) (v : Value) (n : Nat) (xs : List Value) : (row t size v n xs).celly := by
  rintro h F ⟨_, c⟩ i hi
  rcases c with ⟨_, _, c⟩ | ⟨g, cap, cur, _, e2, _, _, _, _, e⟩
  · exact absurd hi (c i)
  · exact ⟨cur, t, (0, 0), by rw [(e i).1 hi]; exact e2⟩
theorem celly_ex {α : Type} {A : α → Asrt} (h : ∀ x, (A x).celly) : (ex A).celly := fun hp F ⟨x, hx⟩ => h x hp F hx
theorem celly_bytes : ∀ l, (bytesAll l).celly
  | [] => celly_emp
  | q :: l => celly_star (celly_row _ _ _ _ _) (celly_bytes l)
/-- The loop's book-keeping keeps what is held. -/
theorem Holds.grown {W W' : World} {R : Snap} {L : Asrt} {B : Nat} {r : Option Nat} (H : Holds W R L) (hc : L.celly) (hB : ∀ i o, R.blk i = some o → i < B) (hg : W.grownBy W' r) (hr : ∀ x, r = some x → B ≤ x ∧ ∃ o : Obj, W.heap[x]? = some o ∧ o.isCells = false) : Holds W' R L := by
  obtain ⟨F, hF, hR⟩ := H.own
  refine ⟨hg.os.trans H.os, hg.tape.trans H.tape, hg.output.trans H.output, fun i o hi => ?_, F, L.loc hF fun i hi => ?_, hR⟩
  · have h1 := H.blk i o hi
    rw [hg.block i (Array.getElem?_eq_some_iff.1 h1).1 fun e => by have := (hr i e.symm).1; have := hB i o hi; omega]
    exact h1
  · obtain ⟨cs, t, fr, hcs⟩ := hc _ _ hF i hi
    have h1 : W.heap[i]? = some (.cells cs t fr) := hcs
    exact hg.block i (Array.getElem?_eq_some_iff.1 h1).1 fun e => by
      obtain ⟨_, o, h2, h3⟩ := hr i e.symm
      rw [h1] at h2
      cases h2
      cases h3
theorem Holds.putOther {W : World} {R : Snap} {L : Asrt} {B D : Nat} {o : Obj} (o' : Obj) (H : Holds W R L) (hc : L.celly) (hB : ∀ i o, R.blk i = some o → i < B) (hD : B ≤ D) (h : W.heap[D]? = some o) (ho : o.isCells = false) : Holds (W.putObj D o') R L :=
  H.grown hc hB (grownBy_putObj' W D o') fun x e => by cases e; exact ⟨hD, o, h, ho⟩
theorem Holds.blkLtAll {W : World} {R : Snap} {L : Asrt} (H : Holds W R L) : ∀ i o, R.blk i = some o → i < W.heap.size := fun i o h => (Array.getElem?_eq_some_iff.1 (H.blk i o h)).1
/-- All that is no cells, held as it lies. -/
def Snap.big (R : Snap) (W : World) : Snap := { R with blk := fun i => match R.blk i with
  | some o => some o
  | none => match W.heap[i]? with
    | some o => if o.isCells = true then none else some o
    | none => none }
theorem Snap.le_big (R : Snap) (W : World) : R.le (R.big W) := ⟨rfl, rfl, rfl, fun i o h => by simp only [Snap.big, h]⟩
theorem Holds.big {W : World} {R : Snap} {L : Asrt} (H : Holds W R L) (hc : L.celly) : Holds W (R.big W) L := by
  obtain ⟨F, hF, hR⟩ := H.own
  refine ⟨H.os, H.tape, H.output, fun i o hi => ?_, F, hF, fun i hi => ?_⟩
  · simp only [Snap.big] at hi
    cases h : R.blk i with
    | some x => rw [h] at hi; cases hi; exact H.blk i _ h
    | none =>
      rw [h] at hi
      cases h2 : W.heap[i]? with
      | none => rw [h2] at hi; cases hi
      | some x =>
        rw [h2] at hi
        simp only at hi
        split at hi
        · cases hi
        · exact hi
  · obtain ⟨cs, t, fr, hcs⟩ := hc _ _ hF i hi
    have h1 : W.heap[i]? = some (.cells cs t fr) := hcs
    simp only [Snap.big, hR i hi, h1]
    rfl
theorem Snap.big_at {R : Snap} {W : World} {i : Nat} {o : Obj} (h : W.heap[i]? = some o) (ho : o.isCells = false) (hR : ∀ x, R.blk i = some x → W.heap[i]? = some x) : (R.big W).blk i = some o := by
  simp only [Snap.big]
  cases h2 : R.blk i with
  | some x => rw [hR x h2] at h; exact h
  | none => simp only [h, ho]; rfl
theorem keeps_of {W W' : World} {R R' : Snap} {L L' : Asrt} (H : Holds W R L) (H' : Holds W' R' L') (hle : (R.big W).le R') (hs : W.heap.size ≤ W'.heap.size) : KeepsOthers W W' :=
  ⟨hs, fun k o hk ho => H'.blk k o (hle.blk k o (Snap.big_at hk ho fun x hx => H.blk k x hx))⟩
/-- A range over a function: what is held before a round is held behind it. -/
theorem wp_range {α β : Type} {P : Program} {g : Operand} {ps : Array Tmp} {assign body : Code} {Q : Exit → Act → World → Prop} {a : Act} {w : World}
    {gf c : Nat} {lb : Array Value} (hg : a.eval g = .func (.func gf) #[] lb) (eg : ∀ args w, (callFunc gf args).run P w = .ok (.enter gf args) w)
    {encs : α → Array Value} {S : List α → Prop} {N : Nat} (hseq : SeqStopsK Fence.wide 2 P gf lb encs (fun W W' => W'.heap[c]? = W.heap[c]?) S (fun _ => True) N w) (hps : ∀ x, (encs x).size = ps.size)
    {R0 : Snap} {A : β → Asrt} (φ : List α → β → Prop) (hc : ∃ o, R0.blk c = some o) (hcy : ∀ b, (A b).celly) (b0 : β) (h0 : φ [] b0) (H0 : Holds w R0 (A b0)) (fa : Act → α → Act)
    (hassign : ∀ (l : Nat) (x : α) (W : World) (K : Act → World → Prop), K (fa a x) W →
      assign.wpIn (Fence.wide.inRound l) 1 P (Exit.then K (fun _ _ _ => False)) { tmps := (ps.zip (encs x)).foldl (fun t (p, v) => t.setIfInBounds p v) a.tmps, defers := [] } W)
    (hbody : ∀ (l : Nat) (pre : List α) (x : α) (b : β) (W : World), φ pre b → pre.length < N → Holds W (R0.big W) (A b) →
      body.wpIn (Fence.wide.inRound l) 1 P (fun e _ W' => e = .normal ∧ ∃ b' R', (R0.big W).le R' ∧ W.heap.size ≤ W'.heap.size ∧ φ (pre ++ [x]) b' ∧ Holds W' R' (A b')) (fa a x) W)
    (hdone : ∀ (D : Nat) (xs : List α) (b : β) (W : World), S xs → φ xs b → Holds W R0 (A b) → (∀ o', Holds (W.putObj D o') R0 (A b)) → W.heap[D]? = some (.deferred (some [])) → Q .normal { a with defers := { target := .collected D, args := #[] } :: a.defers } W) :
    (Code.rangeFunc g ps assign body).wp P Q a w := by
  obtain ⟨oc, hoc⟩ := hc
  have hB := H0.blkLtAll
  have hcw : c < w.heap.size := hB c oc hoc
  refine (wpIn_wide (n := 3)).1 (wpIn_rangeFunc_ownF (F := Fence.wide) (n := 3) rfl (by decide) (gf := gf) (lb := lb) hg trivial eg hseq (fun h k => k.trans h) (fun W l o o' hl _ _ _ => World.putObj_heap_other (by omega)) (Below.refl _ _) hps
    (fun pre W => ∃ b, φ pre b ∧ Holds W R0 (A b)) (fun _ _ _ => False) ?_ (fun _ _ _ _ _ h _ _ => h) ⟨b0, h0, H0⟩ (fun x => fa a x) hassign ?_ ?_ ?_)
  · rintro pre W W' row ⟨b, hb, H⟩ hg hr
    exact ⟨b, hb, H.grown (hcy b) hB hg hr⟩
  · rintro l pre x W ⟨b, hb, H⟩ hN
    refine wpIn_mono (hbody l pre x b W hb hN (H.big (hcy b))) ?_
    rintro e a' W' ⟨rfl, b', R', hle, hs, hb', H'⟩
    exact ⟨keeps_of H H' hle hs, (H'.blk c oc ((R0.le_big W).trans hle |>.blk c oc hoc)).trans (H.blk c oc hoc).symm, b', hb', H'.weaken ((R0.le_big W).trans hle)⟩
  · rintro D xs W hD hS ⟨b, hb, H⟩ hK
    exact hdone D xs b W hS hb H (fun o' => H.putOther o' (hcy b) hB hD hK rfl) hK
  · rintro D c' pre W _ _ h
    exact h.elim
theorem lets_normal {α β : Type} {R : Exit → Act → World → Prop} {T : World → Prop} : ¬ LetsOut (fun e (_ : Act) W' => e = .normal ∧ T W') := fun ⟨_, _, h, _⟩ => by cases h
end Sh
