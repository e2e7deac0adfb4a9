/- EntText Range RangeMut EntPieces BytesEq Rec: joined texts, each with its own sentence below. -/
import Derived.Test.YtmogagcffebbaaaEn7
import Derived.Test.YtmogagcffebbaaaEn2
import Derived.RangeFuncFrom
import Derived.RangeFuncLeaves
import Derived.RangeFuncCalls
import Derived.OwnWalkIn
import Derived.RangeFuncBox
import Derived.TacticsInMore
import Derived.LoopNIn
import Derived.LoopIn
import Derived.Test.YtmogagcffebbaaaEn3
/- entry.text. -/
set_option linter.unusedVariables false
set_option linter.unusedSimpArgs false
namespace Sh
open Go Go.RowKit Go.Proofs
attribute [local go_sem ↓] Go.wp_at_zero Go.wp_at_succ
set_option maxHeartbeats 1000000
set_option maxRecDepth 100000

theorem sizeC_take_le (E : List En) (j : Nat) : sizeC (E.take j) ≤ sizeC E := by
  have : sizeC E = sizeC (E.take j) + ((E.drop j).map fun c => 3 + c.2.length).sum := by
    conv => lhs; rw [← List.take_append_drop j E]
    rw [sizeC, sizeC, List.map_append, List.sum_append]; omega
  omega
theorem sizeC_len (E : List En) : 2 + 3 * E.length ≤ sizeC E := by
  unfold sizeC
  have : 3 * E.length ≤ (E.map fun c => 3 + c.2.length).sum := by
    induction E with
    | nil => simp
    | cons c l ih => rw [List.map_cons, List.sum_cons, List.length_cons]; omega
  omega
theorem text18_spec {w : World} {R : Snap} {L : Asrt} {v : Value} {cs : List Ch} (H : Holds w R L) (hr : RdC R.cell? v cs) (hs : sizeC (conC cs) ≤ 1856) (hp : ∀ x ∈ cs, x.at_ ≤ 9223372036854775807) :
    Calls Try.prog 140 #[v] w fun e w' => ∃ o, e = .returned o ∧ Holds w' R (star (rowB o (textC (conC cs))) L) := by
  obtain ⟨a, c, rfl⟩ := hr.form
  obtain ⟨n, hn⟩ : ∃ n, n = cs.length := ⟨_, rfl⟩
  obtain ⟨E, hE⟩ : ∃ E, E = conC cs := ⟨_, rfl⟩
  have HR := Hid.mk' hr
  have HN := Hid.mk' hn
  have HP := Hid.mk' hp
  have HE := Hid.mk' hE
  rw [← hE] at hs ⊢
  have HEL : Hid (E.length = n) := Hid.mk' (by rw [hE, conC_len, hn])
  have hn9 : n ≤ 1000 := by have := sizeC_len E; rw [HEL.out] at this; omega
  have HEG : Hid (∀ j (h : j < cs.length) (h2 : j < E.length), E[j] = (cs[j].at_, cs[j].data)) := Hid.mk' (fun j h h2 => by
    have := conC_get h
    rw [← hE, List.getElem?_eq_getElem h2] at this
    exact Option.some.inj this)
  rw [← hn]
  obtain ⟨T, hT⟩ : ∃ T : Nat → List UInt8, T = fun j => nb 2 (n : Nat) ++ (E.take j).flatMap entC := ⟨_, rfl⟩
  have HT0 : Hid (T 0 = nb 2 (n : Nat)) := Hid.mk' (by rw [hT]; simp)
  have HTS : Hid (∀ j (h : j < E.length), T (j + 1) = T j ++ entC E[j]) := Hid.mk' (fun j h => by rw [hT]; exact textC_step h _)
  have HTL : Hid (∀ j, (T j).length ≤ 1856) := Hid.mk' (fun j => by rw [hT]; show (nb 2 _ ++ _).length ≤ _; rw [flat_len_le]; exact Nat.le_trans (sizeC_take_le E j) hs)
  have HTN : Hid (T n = textC E) := Hid.mk' (by rw [hT, ← HEL.out]; show nb 2 _ ++ (E.take _).flatMap entC = _; rw [List.take_length]; rfl)
  rw [← HTN.out]
  clear hr hn hE hT hp hs
  go_enter Try.func140, Try.ntmps140
  go_upto_region 2 with fail
  have H1 : Holds _ R (star (wr _ []) L) := wr_shut (((H.alloc #[.slice none 0 0] 153).nilRow tU8 1).swap)
  generalize (World.alloc ..) = w1 at H1 ⊢
  generalize w.heap.size = pw at H1 ⊢
  clear H
  go_wp2_with fail
  refine (num_spec (k := 2) (n := (n : Nat)) H1 (by simp) (by omega)).mono ?_
  rintro e w2 ⟨rfl, H2⟩
  rw [List.nil_append, ← HT0.out] at H2
  clear H1
  go_wp2_with fail
  go_loopw [14] (fun i wx => ∃ (j : Nat), i = .int .i64 j ∧ j ≤ n ∧ Holds wx R (star (wr pw (T j)) L)) (fun i _ => n - (intOf i).toNat)
  case atStart => exact ⟨0, rfl, Nat.zero_le _, H2⟩
  case round =>
    clear H2
    obtain ⟨j, rfl, hj, H3⟩ := hrel
    by_cases hlt : j < n
    · have d1 : decide ((j : Int) < (n : Int)) = true := by simp; omega
      have hjs : j < cs.length := by rw [← HN.out]; exact hlt
      have hjE : j < E.length := by rw [HEL.out]; exact hlt
      obtain ⟨b2, o2, rfl, hc0, hc1, hq⟩ := RdC.at HR.out hjs
      have he := HEG.out j hjs hjE
      have hts := HTS.out j hjE
      have htl := HTL.out (j + 1)
      have htj := HTL.out j
      have hpx := HP.out _ (List.getElem_mem hjs)
      rw [he] at hts
      generalize cs[j] = x at *
      obtain ⟨xa, xv, xd⟩ := x
      simp only at hc0 hc1 hq hts hpx
      obtain ⟨ax, cx, rfl⟩ := hq.form
      obtain ⟨l, hl⟩ : ∃ l, l = xd.length := ⟨_, rfl⟩
      have hl9 : l ≤ 1856 := by
        rw [hts, List.length_append, entC_len] at htl
        simp only at htl
        omega
      have HQ : Hid (RdB R.cell? (.slice ax l cx) xd) := Hid.mk' (by rw [hl]; exact hq)
      have HL := Hid.mk' hl
      rw [← hl] at hc1
      replace hc0 := H3.cell hc0
      replace hc1 := H3.cell hc1
      have i1 : (0 : Int) ≤ (j : Int) := by omega
      have i2 : (j : Int) < (n : Int) := by omega
      obtain ⟨m, hm⟩ : ∃ m, m = min l 1 := ⟨_, rfl⟩
      have hmin : min (l : Int) 1 = (m : Int) := by omega
      have hm9 : m ≤ 1 := by omega
      have HTX : Hid (T (j + 1) = T j ++ nb 2 xa ++ nb 1 (m : Nat) ++ xd) := Hid.mk' (by
        rw [hts, entC, ← hl, ← hm]; simp only [List.append_assoc])
      obtain ⟨R4, le4, H4, hb⟩ := H3.allocR (.cells #[.int .i64 xa, .slice ax l cx] tChg (0, 0))
      clear hq hl hjE he hjs hts hm
      go_upto_region 7 with fail
      generalize (World.alloc ..) = w4 at H4 ⊢
      generalize wr.heap.size = g at hb ⊢
      clear H3 hc0 hc1
      obtain ⟨l1, n1, c1⟩ := Holds.frzFacts (H4) hb
      go_wp2_with fail
      refine (num_spec (k := 2) (n := xa) H4 (by omega) hpx).mono ?_
      rintro e w5 ⟨rfl, H5⟩
      clear H4 l1 n1 c1
      obtain ⟨l1, n1, c1⟩ := Holds.frzFacts (H5) hb
      go_upto_region 8 with fail
      go_wp2_with fail
      refine (num_spec (k := 1) (n := (m : Nat)) H5 (by rw [List.length_append, nb_length, wid_2]; omega) (by omega)).mono ?_
      rintro e w6 ⟨rfl, H6⟩
      clear H5 l1 n1 c1
      obtain ⟨l1, n1, c1⟩ := Holds.frzFacts (H6) hb
      go_upto_region 9 with fail
      go_wp2_with fail
      refine (raw_spec (v := .slice ax l cx) (b := xd) H6 (by rw [List.length_append, List.length_append, nb_length, nb_length, wid_2, wid_1]; omega) (by rw [← HL.out]; omega) (Rd.world (Rd.le HQ.out le4) H6)).mono ?_
      rintro e w7 ⟨rfl, H7⟩
      rw [← HTX.out] at H7
      clear H6 l1 n1 c1
      go_wp2_with fail
      go_roundw
      case rel => exact ⟨j + 1, by go_num, hlt, H7.weaken le4⟩
      case measure => simp [intOf]; omega
    · have d1 : decide ((j : Int) < (n : Int)) = false := by simp; omega
      obtain rfl : j = n := by omega
      have htj := HTL.out j
      go_wp2_with fail
      refine (bytes_spec H3 (by omega)).mono ?_
      rintro e w5 ⟨v5, rfl, H5⟩
      go_wp2_with fail
      go_ret
      exact ⟨_, rfl, H5.drop2⟩
end Sh
/- A range over a function, over what a world holds: a round's regions by their plain walk; what the loop's own book-keeping keeps. -/
set_option linter.unusedVariables false
set_option linter.unusedSimpArgs false
namespace Sh
open Go Go.RowKit Go.Proofs
attribute [local go_sem ↓] Go.wp_at_zero Go.wp_at_succ
set_option maxHeartbeats 1000000
set_option maxRecDepth 100000

/-! ### What a round's operations do -/
def Op.noDefer : Op → Bool
  | .defer _ => false
  | _ => true
theorem noDefer_spec {o : Oper} (h : Sh.Op.noDefer o.op = true) : ∀ c, o.op ≠ .defer c := by
  intro c e; rw [e] at h; cases h
theorem calls_round {l n : Nat} {P : Program} {f : FuncId} {args : Array Value} {w : World} {R : Ending → World → Prop} (h : Calls P f args w R) : CallsIn (Fence.wide.inRound l) n P f args w R :=
  CallsIn.inRound l (callsIn_wide.2 h)
theorem rows_round {l n : Nat} {P : Program} {r : String} {args : Array Value} {w : World} {R : Value → World → Prop} (h : Rows P r args w R) : RowsIn (Fence.wide.inRound l) n P r args w R := by
  intro c cs _
  obtain ⟨v, w', hR, hs⟩ := h c cs
  exact ⟨v, w', hR, by rw [fenced_inRound]; exact stepsIn_wide.2 hs⟩
theorem upon_round {l n : Nat} {P : Program} {o : Oper} {a : Act} {K K' : Act → World → Prop} {Q : Exit → Act → World → Prop} (hK : ∀ a w, K a w → K' a w) : ∀ {r : Result Next}, o.upon P a K Q r → o.uponIn (Fence.wide.inRound l) n P a K' Q r := by
  intro r h
  have hd : (Fence.wide.inRound l).depth.isSome = true → 1 ≤ n := fun h => by cases h
  cases r with
  | ok nx w =>
    cases nx with
    | value v => exact hK _ _ h
    | skip => exact hK _ _ h
    | defer d => exact hK _ _ h
    | enter f args =>
      refine ⟨hd, calls_round (Calls.mono h fun e w' he => ?_)⟩
      cases e with
      | returned v => exact hK _ _ he
      | panicked c => exact he
      | outgrown => exact he
    | row r args => exact ⟨hd, rows_round (Rows.mono h fun v w' he => hK _ _ he)⟩
    | _ => exact h.elim
  | halt x w =>
    cases x with
    | panic v => exact h
    | _ => exact h.elim
theorem list_round {l n : Nat} {P : Program} {ops : Array Oper} {Q : Exit → Act → World → Prop} (hL : ¬ LetsOut Q) : ∀ (os : List Oper), (∀ o ∈ os, Sh.Op.noDefer o.op = true) → ∀ (a : Act) (w : World), wpList P ops Q os a w → wpListIn (Fence.wide.inRound l) n P ops Q os a w
  | [], _, _, _, h => h
  | o :: os, hd, a, w, h => by
    have ih := list_round (l := l) (n := n) (P := P) (ops := ops) hL os (fun x hx => hd x (List.mem_cons_of_mem _ hx))
    unfold wpList at h
    unfold wpListIn
    by_cases hw : Region.wanted o (yielded ops a.tmps) = true
    · rw [if_pos hw] at h ⊢
      rcases h with h | ⟨_, h⟩
      · refine ⟨fun _ _ => trivial, ?_⟩
        rw [Oper.semAt_plain _ _ _ (noDefer_spec (hd o List.mem_cons_self))]
        exact upon_round ih h
      · exact absurd h hL
    · rw [if_neg hw] at h ⊢
      exact ⟨fun _ _ => trivial, ih _ _ h⟩
theorem op_round {l n : Nat} {P : Program} {ops : Array Oper} {Q : Exit → Act → World → Prop} (hL : ¬ LetsOut Q) (hd : ∀ o ∈ ops.toList, Sh.Op.noDefer o.op = true) {i : Nat} {K K' : Act → World → Prop} (hK : ∀ a w, K a w → K' a w) {a : Act} {w : World} (h : wpOp P ops Q i K a w) : wpOpIn (Fence.wide.inRound l) n P ops Q i K' a w := by
  unfold wpOp at h
  unfold wpOpIn
  cases ho : ops[i]? with
  | none => rw [ho] at h; exact hK _ _ h
  | some o =>
    rw [ho] at h
    simp only at h ⊢
    by_cases hw : Region.wanted o (yielded ops a.tmps) = true
    · rw [if_pos hw] at h ⊢
      rcases h with h | ⟨_, h⟩
      · refine ⟨fun _ _ => trivial, ?_⟩
        rw [Oper.semAt_plain _ _ _ (noDefer_spec (hd o (List.mem_of_getElem? (by rw [Array.getElem?_toList]; exact ho))))]
        exact upon_round hK h
      · exact absurd h hL
    · rw [if_neg hw] at h ⊢
      exact ⟨fun _ _ => trivial, hK _ _ h⟩
theorem any_round {l n : Nat} {P : Program} {md : Region.Mode} {ops : Array Oper} {Q : Exit → Act → World → Prop} (hL : ¬ LetsOut Q) (hd : ∀ o ∈ ops.toList, Sh.Op.noDefer o.op = true) : ∀ (fuel : Nat) (listed : Array Bool) (a : Act) (w : World), wpAny P md ops Q fuel listed a w → wpAnyIn (Fence.wide.inRound l) n P md ops Q fuel listed a w
  | 0, _, _, _, h => h
  | fuel + 1, listed, a, w, h => ⟨h.1, fun i hi => op_round hL hd (fun a w h => any_round hL hd fuel _ a w h) (h.2 i hi)⟩
theorem lets_then {K : Act → World → Prop} {Q : Exit → Act → World → Prop} (h : ¬ LetsOut Q) : ¬ LetsOut (Exit.then K Q) := fun ⟨a, w, q⟩ => h ⟨a, w, q⟩
/-- A region in a round, and what follows. -/
theorem seq_round {l n : Nat} {P : Program} {id : Nat} {os : List Oper} {rest : Code} {Q : Exit → Act → World → Prop} {a : Act} {w : World} (hd : os.all (fun o => Sh.Op.noDefer o.op) = true) (hL : ¬ LetsOut Q)
    (h : ∀ K : Act → World → Prop, (∀ a w, rest.wpIn (Fence.wide.inRound l) n P Q a w → K a w) → wpList P os.toArray (Exit.then K Q) os a w) : (Code.seq (Code.region id os.toArray false) rest).wpIn (Fence.wide.inRound l) n P Q a w :=
  wpIn_seq_k fun K hK => wpIn_region_lit (list_round (lets_then hL) os (List.all_eq_true.1 hd) a w (h K hK))
theorem last_round {l n : Nat} {P : Program} {id : Nat} {os : List Oper} {Q : Exit → Act → World → Prop} {a : Act} {w : World} (hd : os.all (fun o => Sh.Op.noDefer o.op) = true) (hL : ¬ LetsOut Q)
    (h : wpList P os.toArray Q os a w) : (Code.region id os.toArray false).wpIn (Fence.wide.inRound l) n P Q a w :=
  wpIn_region_lit (list_round hL os (List.all_eq_true.1 hd) a w h)
theorem draw_round {l n : Nat} {P : Program} {id : Nat} {os : List Oper} {Q : Exit → Act → World → Prop} {a : Act} {w : World} (hm : P.follows .mixedOrders = true) (hd : os.all (fun o => Sh.Op.noDefer o.op) = true) (hL : ¬ LetsOut Q)
    (h : wpAny P .any os.toArray Q os.length (Array.replicate os.length false) a w.drew) : (Code.region id os.toArray true).wpIn (Fence.wide.inRound l) n P Q a w :=
  wpIn_region_any hm (any_round hL (List.all_eq_true.1 hd) _ _ _ _ h)
/-! ### What is owned and is cells -/
def Asrt.celly (L : Asrt) : Prop := ∀ h F, L.on h F → ∀ i, F i → ∃ cs t fr, h i = some (.cells cs t fr)
theorem celly_emp : emp.celly := fun _ _ h i hi => absurd hi (h i)
theorem celly_star {A B : Asrt} (ha : A.celly) (hb : B.celly) : (star A B).celly := by
  rintro h F ⟨F1, F2, a, b, _, e⟩ i hi
  rcases (e i).1 hi with h1 | h1
  · exact ha h F1 a i h1
  · exact hb h F2 b i h1
theorem celly_blk (b : Nat) (cs : Array Value) (t : TypeId) : (blk b cs t).celly := fun h F ⟨a, e⟩ i hi => ⟨cs, t, (0, 0), by rw [(e i).1 hi]; exact a⟩
theorem celly_row (t : TypeId) (size : Nat) (v : Value) (n : Nat) (xs : List Value) : (row t size v n xs).celly := by
  rintro h F ⟨_, c⟩ i hi
  rcases c with ⟨_, _, c⟩ | ⟨g, cap, cur, _, e2, _, _, _, _, e⟩
  · exact absurd hi (c i)
  · exact ⟨cur, t, (0, 0), by rw [(e i).1 hi]; exact e2⟩
theorem celly_ex {α : Type} {A : α → Asrt} (h : ∀ x, (A x).celly) : (ex A).celly := fun hp F ⟨x, hx⟩ => h x hp F hx
theorem celly_bytes : ∀ l, (bytesAll l).celly
  | [] => celly_emp
  | q :: l => celly_star (celly_row _ _ _ _ _) (celly_bytes l)
/-- The loop's book-keeping keeps what is held. -/
theorem Holds.grown {W W' : World} {R : Snap} {L : Asrt} {B : Nat} {r : Option Nat} (H : Holds W R L) (hc : L.celly) (hB : ∀ i o, R.blk i = some o → i < B) (hg : W.grownBy W' r) (hr : ∀ x, r = some x → B ≤ x ∧ ∃ o : Obj, W.heap[x]? = some o ∧ o.isCells = false) : Holds W' R L := by
  obtain ⟨F, hF, hR⟩ := H.own
  refine ⟨hg.os.trans H.os, hg.tape.trans H.tape, hg.output.trans H.output, fun i o hi => ?_, F, L.loc hF fun i hi => ?_, hR⟩
  · have h1 := H.blk i o hi
    rw [hg.block i (Array.getElem?_eq_some_iff.1 h1).1 fun e => by have := (hr i e.symm).1; have := hB i o hi; omega]
    exact h1
  · obtain ⟨cs, t, fr, hcs⟩ := hc _ _ hF i hi
    have h1 : W.heap[i]? = some (.cells cs t fr) := hcs
    exact hg.block i (Array.getElem?_eq_some_iff.1 h1).1 fun e => by
      obtain ⟨_, o, h2, h3⟩ := hr i e.symm
      rw [h1] at h2
      cases h2
      cases h3
theorem Holds.putOther {W : World} {R : Snap} {L : Asrt} {B D : Nat} {o : Obj} (o' : Obj) (H : Holds W R L) (hc : L.celly) (hB : ∀ i o, R.blk i = some o → i < B) (hD : B ≤ D) (h : W.heap[D]? = some o) (ho : o.isCells = false) : Holds (W.putObj D o') R L :=
  H.grown hc hB (grownBy_putObj' W D o') fun x e => by cases e; exact ⟨hD, o, h, ho⟩
theorem Holds.blkLtAll {W : World} {R : Snap} {L : Asrt} (H : Holds W R L) : ∀ i o, R.blk i = some o → i < W.heap.size := fun i o h => (Array.getElem?_eq_some_iff.1 (H.blk i o h)).1
/-- All that is no cells, held as it lies. -/
def Snap.big (R : Snap) (W : World) : Snap := { R with blk := fun i => match R.blk i with
  | some o => some o
  | none => match W.heap[i]? with
    | some o => if o.isCells = true then none else some o
    | none => none }
theorem Snap.le_big (R : Snap) (W : World) : R.le (R.big W) := ⟨rfl, rfl, rfl, fun i o h => by simp only [Snap.big, h]⟩
theorem Holds.big {W : World} {R : Snap} {L : Asrt} (H : Holds W R L) (hc : L.celly) : Holds W (R.big W) L := by
  obtain ⟨F, hF, hR⟩ := H.own
  refine ⟨H.os, H.tape, H.output, fun i o hi => ?_, F, hF, fun i hi => ?_⟩
  · simp only [Snap.big] at hi
    cases h : R.blk i with
    | some x => rw [h] at hi; cases hi; exact H.blk i _ h
    | none =>
      rw [h] at hi
      cases h2 : W.heap[i]? with
      | none => rw [h2] at hi; cases hi
      | some x =>
        rw [h2] at hi
        simp only at hi
        split at hi
        · cases hi
        · exact hi
  · obtain ⟨cs, t, fr, hcs⟩ := hc _ _ hF i hi
    have h1 : W.heap[i]? = some (.cells cs t fr) := hcs
    simp only [Snap.big, hR i hi, h1]
    rfl
theorem Snap.big_at {R : Snap} {W : World} {i : Nat} {o : Obj} (h : W.heap[i]? = some o) (ho : o.isCells = false) (hR : ∀ x, R.blk i = some x → W.heap[i]? = some x) : (R.big W).blk i = some o := by
  simp only [Snap.big]
  cases h2 : R.blk i with
  | some x => rw [hR x h2] at h; exact h
  | none => simp only [h, ho]; rfl
theorem keeps_of {W W' : World} {R R' : Snap} {L L' : Asrt} (H : Holds W R L) (H' : Holds W' R' L') (hle : (R.big W).le R') (hs : W.heap.size ≤ W'.heap.size) : KeepsOthers W W' :=
  ⟨hs, fun k o hk ho => H'.blk k o (hle.blk k o (Snap.big_at hk ho fun x hx => H.blk k x hx))⟩
/-- A range over a function: what is held before a round is held behind it. -/
theorem wp_range {α β : Type} {P : Program} {g : Operand} {ps : Array Tmp} {assign body : Code} {Q : Exit → Act → World → Prop} {a : Act} {w : World}
    {gf c : Nat} {lb : Array Value} (hg : a.eval g = .func (.func gf) #[] lb) (eg : ∀ args w, (callFunc gf args).run P w = .ok (.enter gf args) w)
    {encs : α → Array Value} {S : List α → Prop} {N : Nat} (hseq : SeqStopsK Fence.wide 2 P gf lb encs (fun W W' => W'.heap[c]? = W.heap[c]?) S (fun _ => True) N w) (hps : ∀ x, (encs x).size = ps.size)
    {R0 : Snap} {A : β → Asrt} (φ : List α → β → Prop) (hc : ∃ o, R0.blk c = some o) (hcy : ∀ b, (A b).celly) (b0 : β) (h0 : φ [] b0) (H0 : Holds w R0 (A b0)) (fa : Act → α → Act)
    (hassign : ∀ (l : Nat) (x : α) (W : World) (K : Act → World → Prop), K (fa a x) W →
      assign.wpIn (Fence.wide.inRound l) 1 P (Exit.then K (fun _ _ _ => False)) { tmps := (ps.zip (encs x)).foldl (fun t (p, v) => t.setIfInBounds p v) a.tmps, defers := [] } W)
    (hbody : ∀ (l : Nat) (pre : List α) (x : α) (b : β) (W : World), φ pre b → pre.length < N → Holds W (R0.big W) (A b) →
      body.wpIn (Fence.wide.inRound l) 1 P (fun e _ W' => e = .normal ∧ ∃ b' R', (R0.big W).le R' ∧ W.heap.size ≤ W'.heap.size ∧ φ (pre ++ [x]) b' ∧ Holds W' R' (A b')) (fa a x) W)
    (hdone : ∀ (D : Nat) (xs : List α) (b : β) (W : World), S xs → φ xs b → Holds W R0 (A b) → (∀ o', Holds (W.putObj D o') R0 (A b)) → W.heap[D]? = some (.deferred (some [])) → Q .normal { a with defers := { target := .collected D, args := #[] } :: a.defers } W) :
    (Code.rangeFunc g ps assign body).wp P Q a w := by
  obtain ⟨oc, hoc⟩ := hc
  have hB := H0.blkLtAll
  have hcw : c < w.heap.size := hB c oc hoc
  refine (wpIn_wide (n := 3)).1 (wpIn_rangeFunc_ownF (F := Fence.wide) (n := 3) rfl (by decide) (gf := gf) (lb := lb) hg trivial eg hseq (fun h k => k.trans h) (fun W l o o' hl _ _ _ => World.putObj_heap_other (by omega)) (Below.refl _ _) hps
    (fun pre W => ∃ b, φ pre b ∧ Holds W R0 (A b)) (fun _ _ _ => False) ?_ (fun _ _ _ _ _ h _ _ => h) ⟨b0, h0, H0⟩ (fun x => fa a x) hassign ?_ ?_ ?_)
  · rintro pre W W' row ⟨b, hb, H⟩ hg hr
    exact ⟨b, hb, H.grown (hcy b) hB hg hr⟩
  · rintro l pre x W ⟨b, hb, H⟩ hN
    refine wpIn_mono (hbody l pre x b W hb hN (H.big (hcy b))) ?_
    rintro e a' W' ⟨rfl, b', R', hle, hs, hb', H'⟩
    exact ⟨keeps_of H H' hle hs, (H'.blk c oc ((R0.le_big W).trans hle |>.blk c oc hoc)).trans (H.blk c oc hoc).symm, b', hb', H'.weaken ((R0.le_big W).trans hle)⟩
  · rintro D xs W hD hS ⟨b, hb, H⟩ hK
    exact hdone D xs b W hS hb H (fun o' => H.putOther o' (hcy b) hB hD hK rfl) hK
  · rintro D c' pre W _ _ h
    exact h.elim
theorem lets_normal {α β : Type} {R : Exit → Act → World → Prop} {T : World → Prop} : ¬ LetsOut (fun e (_ : Act) W' => e = .normal ∧ T W') := fun ⟨_, _, h, _⟩ => by cases h
end Sh
/- A range over a function that writes a variable of its own: what is held before a round is held behind it. -/
set_option linter.unusedVariables false
set_option linter.unusedSimpArgs false
namespace Sh
open Go Go.RowKit Go.Proofs
attribute [local go_sem ↓] Go.wp_at_zero Go.wp_at_succ
set_option maxHeartbeats 1000000
set_option maxRecDepth 100000

theorem Holds.ownNone {w : World} {R : Snap} {L : Asrt} {c : Nat} {cs : Array Value} {t : TypeId} (H : Holds w R (star (Sh.blk c cs t) L)) : R.blk c = none := by
  obtain ⟨F, ⟨F1, F2, ⟨_, e1⟩, _, _, e⟩, hR⟩ := H.own
  exact hR c ((e c).2 (.inl ((e1 c).2 rfl)))
/-- What was read for a while is owned again. -/
theorem Holds.thaw {W : World} {R0 R1 : Snap} {L : Asrt} {c : Nat} {cs : Array Value} {t : TypeId} (H : Holds W R1 L) (hle : R0.le R1) (h0 : R0.blk c = none) (h1 : R1.blk c = some (.cells cs t (0, 0))) : Holds W R0 (star (Sh.blk c cs t) L) := by
  obtain ⟨F, hF, hR⟩ := H.own
  refine ⟨H.os.trans hle.os, H.tape.trans hle.tape, H.output.trans hle.output, fun i o hi => H.blk i o (hle.blk i o hi), fun i => i = c ∨ F i, ⟨fun i => i = c, F, ⟨H.blk c _ h1, fun i => Iff.rfl⟩, hF, ?_, fun i => Iff.rfl⟩, ?_⟩
  · intro i hi hf
    subst hi
    have := hR i hf
    rw [h1] at this; cases this
  · rintro i (rfl | hi)
    · exact h0
    · cases hb : R0.blk i with
      | none => rfl
      | some o => have := hle.blk i o hb; rw [hR i hi] at this; cases this
/-- What an iterator does that writes its variable in block c, for every body that leaves this block alone. -/
def SeqMut {α : Type} (P : Program) (g : Nat) (lb : Array Value) (encs : α → Array Value) (c : Nat) (tc : TypeId) (S : List α → Prop) (N : Nat) (w : World) : Prop :=
  ∀ (l : Nat) (J : List α → World → Prop) (W : World), W.heap[c]? = w.heap[c]? →
    (∀ pre W1 v v', J pre W1 → W1.heap[c]? = some (.cells #[v] tc (0, 0)) → J pre (W1.setCell ⟨c, 0, none⟩ v')) →
    (∀ pre x W1, J pre W1 → pre.length < N → YieldAt Fence.wide 1 P l (encs x) W1 fun e W' => e = .returned (.bool true) ∧ J (pre ++ [x]) W' ∧ W'.heap[c]? = W1.heap[c]?) →
    J [] W → CallsIn Fence.wide 2 P g (#[.func (.yield l) #[] #[]] ++ lb) W fun e W' => (∃ v, e = .returned v) ∧ ∃ xs, S xs ∧ J xs W'
theorem wp_rangeMut {α β : Type} {P : Program} {g : Operand} {ps : Array Tmp} {assign body : Code} {Q : Exit → Act → World → Prop} {a : Act} {w : World}
    {gf c : Nat} {tc : TypeId} {lb : Array Value} (hg : a.eval g = .func (.func gf) #[] lb) (eg : ∀ args w, (callFunc gf args).run P w = .ok (.enter gf args) w)
    {encs : α → Array Value} {S : List α → Prop} {N : Nat} (hseq : SeqMut P gf lb encs c tc S N w) (hps : ∀ x, (encs x).size = ps.size)
    {R0 : Snap} {A : β → Asrt} (φ : List α → β → Prop) (hcy : ∀ b, (A b).celly) (b0 : β) (v0 : Value) (h0 : φ [] b0) (H0 : Holds w R0 (star (blk c #[v0] tc) (A b0))) (fa : Act → α → Act)
    (hassign : ∀ (l : Nat) (x : α) (W : World) (K : Act → World → Prop), K (fa a x) W →
      assign.wpIn (Fence.wide.inRound l) 1 P (Exit.then K (fun _ _ _ => False)) { tmps := (ps.zip (encs x)).foldl (fun t (p, v) => t.setIfInBounds p v) a.tmps, defers := [] } W)
    (hbody : ∀ (l : Nat) (pre : List α) (x : α) (b : β) (W : World) (R1 : Snap), φ pre b → pre.length < N → R0.le R1 → Holds W R1 (A b) →
      body.wpIn (Fence.wide.inRound l) 1 P (fun e _ W' => e = .normal ∧ ∃ b' R', R1.le R' ∧ W.heap.size ≤ W'.heap.size ∧ φ (pre ++ [x]) b' ∧ Holds W' R' (A b')) (fa a x) W)
    (hdone : ∀ (D : Nat) (xs : List α) (b : β) (W : World), w.heap.size ≤ D → S xs → φ xs b → Holds W R0 (A b) → (∀ o', Holds (W.putObj D o') R0 (A b)) → W.heap[D]? = some (.deferred (some [])) → Q .normal { a with defers := { target := .collected D, args := #[] } :: a.defers } W) :
    (Code.rangeFunc g ps assign body).wp P Q a w := by
  refine (wpIn_wide (n := 3)).1 (wpIn_rangeFunc ?_)
  intro fn hfn
  have hcw : c < w.heap.size := H0.blkLt
  have hB := H0.blkLtAll
  have hc0 := H0.ownNone
  obtain ⟨D, hD⟩ : ∃ D, D = w.heap.size := ⟨_, rfl⟩
  obtain ⟨rec, hrec⟩ : ∃ rec : LoopState → Option Code → Loop, rec = fun st pe => { state := st, pending := pe, fn, tmps := a.tmps, params := ps, assign, body, defers := D } := ⟨_, rfl⟩
  obtain ⟨V, hV⟩ : ∃ V, V = (w.alloc (.deferred (some []))).alloc (.loop (rec .ready none)) := ⟨_, rfl⟩
  have hcy2 : ∀ b v, (star (blk c #[v] tc) (A b)).celly := fun b v => celly_star (celly_blk _ _ _) (hcy b)
  -- the invariant: what is held, with the iterator's variable
  obtain ⟨I, hI⟩ : ∃ I : List α → World → Prop, I = fun pre W => ∃ b v, φ pre b ∧ Holds W R0 (star (blk c #[v] tc) (A b)) := ⟨_, rfl⟩
  have hput : ∀ {pre W l o} (o' : Obj), I pre W → D ≤ l → W.heap[l]? = some o → o.isCells = false → I pre (W.putObj l o') := by
    intro pre W l o o' h h1 h2 h3
    rw [hI] at h ⊢
    obtain ⟨b, v, h4, h5⟩ := h
    exact ⟨b, v, h4, h5.putOther o' (hcy2 b v) hB (by rw [hD] at h1; exact h1) h2 h3⟩
  have hIc : ∀ {pre W}, I pre W → ∃ v, W.heap[c]? = some (.cells #[v] tc (0, 0)) := by
    intro pre W h
    rw [hI] at h
    obtain ⟨b, v, _, h5⟩ := h
    exact ⟨v, h5.blkAt⟩
  have hV0 : I [] V := by
    rw [hI, hV]
    exact ⟨b0, v0, h0, (H0.garbage _).garbage _⟩
  have hVl : V.heap[D + 1]? = some (.loop (rec .ready none)) := by
    rw [hV, hD]
    have := World.alloc_heap_new (w.alloc (.deferred (some []))) (.loop (rec .ready none))
    rwa [World.size_alloc] at this
  have hVd : V.heap[D]? = some (.deferred (some [])) := by
    rw [hV, hD]
    exact (Below.heap_alloc _ _ _ (by simp)).trans (World.alloc_heap_new w _)
  have hVc : V.heap[c]? = w.heap[c]? := by
    rw [hV]
    exact (Below.heap_alloc _ _ _ (by rw [World.size_alloc]; omega)).trans (Below.heap_alloc _ _ _ (by omega))
  obtain ⟨J, hJ⟩ : ∃ J : List α → World → Prop, J = fun pre W => I pre W ∧ W.heap[D + 1]? = some (.loop (rec .ready none)) ∧ W.heap[D]? = some (.deferred (some [])) := ⟨_, rfl⟩
  refine ⟨D + 1, [{ target := .collected D, args := #[] }], V, { target := .fn (.func gf) lb, args := #[.func (.yield (D + 1)) #[] #[]] }, V, gf, #[.func (.yield (D + 1)) #[] #[]] ++ lb, V, ?_, ?_, (fun _ _ => trivial), ?_, (fun h => by cases h), ?_⟩
  · rw [hV, hrec, hD]; exact run_enterLoop_outer _ _ _ _ _
  · simp only [resolve, hg]
    simp [go_sem]
  · simp [invoke, go_sem, eg]
  · refine (hseq (D + 1) J V hVc ?_ ?_ (by rw [hJ]; exact ⟨hV0, hVl, hVd⟩)).mono ?_
    · -- the iterator writes its variable
      intro pre W1 v v' h hc
      rw [hJ] at h ⊢
      obtain ⟨h1, h2, h3⟩ := h
      have n1 : ∀ k, D ≤ k → (W1.setCell ⟨c, 0, none⟩ v').heap[k]? = W1.heap[k]? := fun k hk => Below.heap_setCell _ _ _ _ (by show k ≠ c; omega)
      refine ⟨?_, (n1 _ (by omega)).trans h2, (n1 _ (by omega)).trans h3⟩
      rw [hI] at h1 ⊢
      obtain ⟨b, u, h4, h5⟩ := h1
      exact ⟨b, v', h4, h5.set 0 v'⟩
    · -- a round
      intro pre x W1 h hlen
      rw [hJ] at h
      obtain ⟨h1, h2, h3⟩ := h
      have hlt : D + 1 < W1.heap.size := (Array.getElem?_eq_some_iff.1 h2).1
      have hy := run_yield (P := P) (args := encs x) h2 (by rw [hrec]; exact hps x)
      rw [hrec] at hy
      refine ⟨fn, _, assign, body, hy, roundIn_of_wpIn hfn (hassign _ x W1 _ ⟨_, run_beginRound h2 (by rw [hrec]), ?_⟩)⟩
      obtain ⟨B, hBB⟩ : ∃ B, B = W1.putObj (D + 1) (.loop { rec .ready none with state := .busy }) := ⟨_, rfl⟩
      rw [← hBB]
      have b1 : I pre B := by rw [hBB]; exact hput _ h1 (by omega) h2 rfl
      have b2 : B.heap[D + 1]? = some (.loop { rec .ready none with state := .busy }) := by rw [hBB]; exact World.putObj_heap_same hlt
      have b3 : B.heap[D]? = some (.deferred (some [])) := by rw [hBB]; exact (World.putObj_heap_other (by omega)).trans h3
      have b4 : B.heap[c]? = W1.heap[c]? := by rw [hBB]; exact World.putObj_heap_other (by omega)
      have b1' := b1
      rw [hI] at b1'
      obtain ⟨b, v, f1, f2⟩ := b1'
      obtain ⟨R1, le1, f3, f4⟩ := (f2.big (hcy2 b v)).freezeBlk
      have le01 := (R0.le_big B).trans le1
      refine wpIn_mono (hbody _ pre x b B R1 f1 hlen le01 f3) ?_
      rintro e a3 W3 ⟨rfl, b', R', le2, hs3, g1, g2⟩
      have hko : KeepsOthers B W3 := keeps_of f2 g2 (le1.trans le2) hs3
      have g3 : I (pre ++ [x]) W3 := by
        rw [hI]
        exact ⟨b', v, g1, g2.thaw (le01.trans le2) hc0 (le2.blk _ _ f4)⟩
      have g4 := hko.same _ _ b2 rfl
      have g5 := hko.same _ _ b3 rfl
      have g6 : W3.heap[c]? = W1.heap[c]? := by
        rw [← b4, g2.blk c _ (le2.blk _ _ f4), f2.blkAt]
      have hend := run_endRound (P := P) none g4
      have hr0 : ({ ({ rec .ready none with state := .busy } : Loop) with state := if (none : Option Code).isNone then .ready else .done, pending := none } : Loop) = rec .ready none := by rw [hrec]; rfl
      rw [hr0] at hend
      refine ⟨_, _, hend, rfl, ?_, ?_⟩
      · rw [hJ]
        exact ⟨hput _ g3 (by omega) g4 rfl, World.putObj_heap_same (Array.getElem?_eq_some_iff.1 g4).1, (World.putObj_heap_other (by omega)).trans g5⟩
      · rw [World.putObj_heap_other (by omega)]; exact g6
    · -- behind the iterator
      rintro e W2 ⟨⟨v, rfl⟩, xs, hS, h⟩
      rw [hJ] at h
      obtain ⟨h1, h2, h3⟩ := h
      have hend := run_endLoop (P := P) h2 (by rw [hrec]; simp)
      refine ⟨none, _, by rw [hrec] at hend; exact hend, ?_⟩
      have g1 := hput (.loop { rec .ready none with state := .exhausted }) h1 (by omega) h2 rfl
      rw [hI] at g1
      obtain ⟨b, u, g2, g3⟩ := g1
      have g4 : (W2.putObj (D + 1) (.loop { rec .ready none with state := .exhausted })).heap[D]? = some (.deferred (some [])) := (World.putObj_heap_other (by omega)).trans h3
      rw [hrec] at g3 g4
      have g5 := g3.drop
      exact hdone D xs b _ (by rw [hD]; exact Nat.le_refl _) hS g2 g5 (fun o' => g5.putOther o' (hcy b) hB (by rw [hD]; exact Nat.le_refl _) g4 rfl) g4
end Sh
/- entry.pieces: what its function value does, for every body: it writes its own variable. -/
set_option linter.unusedVariables false
set_option linter.unusedSimpArgs false
namespace Sh
open Go Go.RowKit Go.Proofs
attribute [local go_sem ↓] Go.wp_at_zero Go.wp_at_succ
set_option maxHeartbeats 1000000
set_option maxRecDepth 100000
attribute [local go_sem] Oper.semAt_some

def partsN (n : Nat) : Nat := (n + 57) / 58
/-- The part that comes i-th. -/
def partV (b o N c i : Nat) : Value := .slice (some ⟨b, o + 58 * i, none⟩) (min (N - 58 * i) 58) (c - 58 * i)
theorem heap_setOne {W : World} {g : Nat} {v v' : Value} {t : TypeId} (h : W.heap[g]? = some (.cells #[v] t (0, 0))) : (W.setCell ⟨g, 0, none⟩ v').heap[g]? = some (.cells #[v'] t (0, 0)) := by
  show (W.heap.modify g _)[g]? = _
  simp only [Array.getElem?_modify, if_true, h, Option.map_some]
  rfl
theorem entPieces_stops (g N c b0 o0 : Nat) (a : Option Addr) (ha : 0 < N → a = some ⟨b0, o0, none⟩) (hN : N ≤ 100000) (hc : N ≤ c) (hc9 : c ≤ maxLen) (w : World) (hg : w.heap[g]? = some (.cells #[.slice a N c] tBytes (0, 0))) :
    SeqMut Try.prog 191 #[.pointer (some ⟨g, 0, none⟩)] (fun x : Fin (partsN N) => #[.int .i64 (x.1 : Nat), partV b0 o0 N c x.1]) g tBytes (fun ys => ys = List.finRange (partsN N)) (partsN N) w := by
  intro l J W hW hset hY h0
  have hgc : ∀ (W' : World) (v : Value), W'.heap[g]? = some (.cells #[v] tBytes (0, 0)) → g < W'.heap.size ∧ (∀ o, W'.cell? ⟨g, o, none⟩ = #[v][o]?) ∧ ∀ o, W'.frozen? ⟨g, o, none⟩ = false := fun W' v h =>
    ⟨(Array.getElem?_eq_some_iff.1 h).1, fun o => cell_of_blk h o, fun o => frozen_of_blk h o⟩
  have HG := Hid.mk' (hW.trans hg)
  have HGC := Hid.mk' hgc
  have HY := Hid.mk' hY
  have HSET := Hid.mk' hset
  have HA := Hid.mk' ha
  clear hg hW hgc hY hset ha
  refine callsIn_of_wp Try.func191 rfl trivial ?_ rfl
  simp only [Try.ntmps191, List.size_toArray, List.length_cons, List.length_nil, Nat.reduceAdd, Nat.reduceSub, Array.replicate_succ, Array.replicate_zero, List.push_toArray, List.append_toArray, List.nil_append, List.cons_append]
  gi_wp2
  have upk : ∀ k (h : k < partsN N), (List.finRange (partsN N)).take (k + 1) = (List.finRange (partsN N)).take k ++ [⟨k, h⟩] := fun k h => by
    rw [List.take_succ_eq_append_getElem (by rw [List.length_finRange]; exact h)]
    simp
  have UPK := Hid.mk' upk
  have upl : ∀ k, k ≤ partsN N → ((List.finRange (partsN N)).take k).length = k := fun k h => by
    rw [List.length_take, List.length_finRange]; omega
  have UPL := Hid.mk' upl
  have hM : N ≤ 58 * partsN N ∧ 58 * partsN N < N + 58 := by unfold partsN; omega
  obtain ⟨M, hMM⟩ : ∃ M, M = partsN N := ⟨_, rfl⟩
  have HMM := Hid.mk' hMM
  rw [← hMM] at hM
  obtain ⟨hM1, hM2⟩ := hM
  clear upk upl hMM
  gi_loopw [3] (fun i wr => ∃ (k r ck : Nat) (ak : Option Addr), k ≤ M ∧ i = .int .i64 k ∧ J ((List.finRange (partsN N)).take k) wr ∧ wr.heap[g]? = some (.cells #[.slice ak r ck] tBytes (0, 0)) ∧ r = N - 58 * k ∧ r ≤ ck ∧ ck ≤ maxLen ∧ (0 < r → ak = some ⟨b0, o0 + 58 * k, none⟩ ∧ ck = c - 58 * k)) (fun i _ => M - (intOf i).toNat)
  case atStart => exact ⟨0, N, c, a, Nat.zero_le _, rfl, h0, HG.out, by simp, hc, hc9, fun h => ⟨by rw [HA.out h]; simp, by simp⟩⟩
  case round =>
    clear h0 HG HA
    obtain ⟨k, r, ck, ak, hk, rfl, hJs, hgw, hr, hrc, hcm, hak⟩ := hrel
    obtain ⟨l1, k1, z1⟩ := HGC.out _ _ hgw
    by_cases hlt : 0 < r
    · have d1 : decide ((0 : Int) < (r : Int)) = true := by simp; omega
      have d1n : decide (0 < r) = true := by simp; omega
      have hkM : k < M := by omega
      have hlt' : k < partsN N := by rw [← HMM.out]; exact hkM
      obtain ⟨rfl, hck⟩ := hak hlt
      obtain ⟨fn, tmps, assign, body, hy, hR⟩ := HY.out _ ⟨k, hlt'⟩ wr hJs (by rw [UPL.out k (by omega)]; exact hlt')
      obtain ⟨m, hm⟩ : ∃ m, m = min r 58 := ⟨_, rfl⟩
      have hmin : min (r : Int) 58 = (m : Int) := by omega
      have e : partV b0 o0 N c k = .slice (some ⟨b0, o0 + 58 * k, none⟩) m ck := by
        unfold partV
        rw [← hr, ← hm, ← hck]
      dsimp only at hy
      rw [e] at hy
      have hm1 : m ≤ r := by omega
      have i1 : (0 : Int) ≤ (m : Int) := by omega
      have i2 : (m : Int) ≤ (ck : Int) := by omega
      have i3 : (m : Int) ≤ (r : Int) := by omega
      have HJS := Hid.mk' hJs
      have HGW := Hid.mk' hgw
      have HR := Hid.mk' hr
      have HM := Hid.mk' hm
      have HCK := Hid.mk' hck
      clear e hJs hgw hr hm hck hak
      gi_wp2
      refine hR.mono ?_
      rintro e W3 ⟨rfl, hJ3, hk3⟩
      have hg3 := hk3.trans HGW.out
      obtain ⟨l3, k3, z3⟩ := HGC.out _ _ hg3
      have hset3 := HSET.out _ _ _ (.slice (adr (some ⟨b0, o0 + 58 * k, none⟩) ck m 1) (r - m) (ck - m)) hJ3 hg3
      have hg4 := heap_setOne (v' := .slice (adr (some ⟨b0, o0 + 58 * k, none⟩) ck m 1) (r - m) (ck - m)) hg3
      have HS3 := Hid.mk' hset3
      have HG4 := Hid.mk' hg4
      clear hJ3 hk3 hg3 hset3 hg4 l1 k1 z1
      gi_wp2
      go_roundw
      case rel =>
        refine ⟨k + 1, r - m, ck - m, _, hkM, by go_num, by rw [UPK.out k hlt']; exact HS3.out, HG4.out, ?_, by omega, by omega, fun h => ?_⟩
        · have := HR.out; have := HM.out; omega
        · have h1 := HR.out; have h2 := HM.out; have h3 := HCK.out
          have hm58 : m = 58 := by omega
          refine ⟨?_, by omega⟩
          rw [adr, if_neg (by omega), hm58]
          simp [Addr.add, Nat.mul_add, Nat.add_assoc]
      case measure => simp [intOf]; omega
    · have d1 : decide ((0 : Int) < (r : Int)) = false := by simp; omega
      have d1n : decide (0 < r) = false := by simp; omega
      have hkM : k = partsN N := by rw [← HMM.out]; omega
      have HKM := Hid.mk' hkM
      clear hkM
      gi_wp2
      go_end0
      refine ⟨⟨_, rfl⟩, _, rfl, ?_⟩
      rw [List.take_of_length_le (by rw [List.length_finRange, ← HKM.out]; exact Nat.le_refl _)] at hJs
      exact hJs
theorem entPieces_spec (a : Option Addr) (N c : Nat) (w : World) : Calls Try.prog 141 #[.slice a N c] w fun e w' => e = .returned (.func (.func 191) #[] #[.pointer (some ⟨w.heap.size, 0, none⟩)]) ∧ w' = w.alloc (.cells #[.slice a N c] tBytes) := by
  go_enter Try.func141, Try.ntmps141
  go_wp2_with fail
  go_ret
  exact ⟨rfl, rfl⟩
end Sh
/- bytes.Equal. -/
set_option linter.unusedVariables false
set_option linter.unusedSimpArgs false
namespace Sh
open Go Go.RowKit Go.Proofs
attribute [local go_sem ↓] Go.wp_at_zero Go.wp_at_succ
set_option maxHeartbeats 1000000
set_option maxRecDepth 100000

theorem bytesEqual_spec {w : World} {u v : Value} {l k : List UInt8} (hu : RdB w.cell? u l) (hv : RdB w.cell? v k) :
    Calls Try.prog 124 #[u, v] w fun e w' => e = .returned (.bool (decide (l = k))) ∧ w = w' := by
  have c1 := convStr hu
  have c2 := convStr hv
  go_enter Try.func124, Try.ntmps124
  go_wp2_with fail
  go_ret
  exact ⟨ret_bool (by rw [Bool.eq_iff_iff]; simp), rfl⟩
end Sh
/- A record: its cells; whether it may be; role; numbers. -/
set_option linter.unusedVariables false
set_option linter.unusedSimpArgs false
namespace Sh
open Go Go.RowKit Go.Proofs
attribute [local go_sem ↓] Go.wp_at_zero Go.wp_at_succ
set_option maxHeartbeats 1000000
set_option maxRecDepth 100000

structure Rc where
  kind : Int
  name : ByteArray
  attempt : Int
  epoch : Int
  mark : Int
  size : Int
  vs : Value
  share : List UInt8
abbrev tRec : TypeId := 108
def Rc.cells (r : Rc) : List Value := [.int .i64 r.kind, .string r.name, .int .i64 r.attempt, .int .i64 r.epoch, .int .i64 r.mark, .int .i64 r.size, r.vs]
def Rc.Rd (c : Addr → Option Value) (r : Rc) : Prop := RdB c r.vs r.share
def Rc.Sz (r : Rc) : Prop := r.name.size ≤ maxLen ∧ r.share.length ≤ 1000000
def Rc.con (r : Rc) : List Int × ByteArray × List UInt8 := ([r.kind, r.attempt, r.epoch, r.mark, r.size], r.name, r.share)
theorem Rc.Rd.le {R R' : Snap} {m : Rc} (h : m.Rd R.cell?) (l : R.le R') : m.Rd R'.cell? := Sh.Rd.le h l
theorem Rc.Rd.world {w : World} {R : Snap} {L : Asrt} {m : Rc} (h : m.Rd R.cell?) (H : Holds w R L) : m.Rd w.cell? := Sh.Rd.world h H
def rcAll (r : Rc) : Bool := decide (0 < r.attempt) && decide (0 < r.epoch) && decide (0 < r.mark)
def rcKind (r : Rc) : Bool :=
  if r.kind = 1 then decide (0 < r.attempt) && decide (r.epoch = r.attempt) && decide (r.mark = 0)
  else if r.kind = 2 ∨ r.kind = 5 then rcAll r
  else if r.kind = 3 then rcAll r && decide (r.share.length = 0)
  else if r.kind = 4 then decide (r.attempt = 0) && decide (r.epoch = 0) && decide (0 < r.mark) && decide (r.size = 0) && decide (r.share.length = 0)
  else false
def rcOk (r : Rc) : Bool := nameOk r.name && inAll 4294967295 [r.attempt, r.epoch, r.mark] && inAll 240 [r.size, (r.share.length : Int)] && rcKind r
theorem rcOk_con {m x : Rc} (h : m.con = x.con) : rcOk m = rcOk x := by
  simp only [Rc.con, Prod.mk.injEq, List.cons.injEq, and_true] at h
  obtain ⟨⟨h1, h2, h3, h4, h5⟩, h6, h7⟩ := h
  simp only [rcOk, rcKind, rcAll, h1, h2, h3, h4, h5, h6, h7]
theorem number_spec (n : Int) (w : World) : Calls Try.prog 156 #[.int .i64 n] w fun e w' => e = .returned (.bool (inOne 4294967295 n)) ∧ w = w' := by
  by_cases h0 : 0 ≤ n
  · have t0 : decide (0 ≤ n) = true := by simpa using h0
    by_cases h1 : n ≤ 4294967295
    · have t1 : decide (n ≤ 4294967295) = true := by simpa using h1
      go_enter Try.func156, Try.ntmps156
      go_wp2_with fail
      go_ret
      exact ⟨ret_bool (by simp [inOne, h0, h1]), rfl⟩
    · have t1 : decide (n ≤ 4294967295) = false := by simpa using h1
      go_enter Try.func156, Try.ntmps156
      go_wp2_with fail
      go_ret
      exact ⟨ret_bool (by simp [inOne, h1]), rfl⟩
  · have t0 : decide (0 ≤ n) = false := by simpa using h0
    go_enter Try.func156, Try.ntmps156
    go_wp2_with fail
    go_ret
    exact ⟨ret_bool (by simp [inOne]; omega), rfl⟩
def bodiesN (n : Nat) : Nat := (n + 47) / 48
theorem bodies_spec (n : Nat) (h : n ≤ 1000000) (w : World) : Calls Try.prog 157 #[.int .i64 (n : Nat)] w fun e w' => e = .returned (.int .i64 (bodiesN n : Nat)) ∧ w = w' := by
  go_enter Try.func157, Try.ntmps157
  go_wp2_with fail
  go_ret
  refine ⟨ret_int ?_, rfl⟩
  unfold bodiesN
  have e1 : IntKind.i64.wrap ((n : Int) + 48) = (n : Int) + 48 := IntWalk.i64_in _ (by omega)
  first | omega | (rw [Int.tdiv_eq_ediv_of_nonneg (by omega)]; omega)
def roleI (k : Int) : Int := if k = 2 ∨ k = 3 ∨ k = 4 then 0 else if k = 1 then 1 else if k = 5 then 2 else -1
theorem role_spec (k : Int) (w : World) : Calls Try.prog 77 #[.int .i64 k] w fun e w' => e = .returned (.int .i64 (roleI k)) ∧ w = w' := by
  by_cases h2 : k = 2
  · subst h2
    go_enter Try.func77, Try.ntmps77
    go_wp2_with fail
    go_ret
    exact ⟨rfl, rfl⟩
  by_cases h3 : k = 3
  · subst h3
    go_enter Try.func77, Try.ntmps77
    go_wp2_with fail
    go_ret
    exact ⟨rfl, rfl⟩
  by_cases h4 : k = 4
  · subst h4
    go_enter Try.func77, Try.ntmps77
    go_wp2_with fail
    go_ret
    exact ⟨rfl, rfl⟩
  by_cases h1 : k = 1
  · subst h1
    go_enter Try.func77, Try.ntmps77
    go_wp2_with fail
    go_ret
    exact ⟨rfl, rfl⟩
  by_cases h5 : k = 5
  · subst h5
    go_enter Try.func77, Try.ntmps77
    go_wp2_with fail
    go_ret
    exact ⟨rfl, rfl⟩
  have b1 : (k == 1) = false := by simpa using h1
  have b2 : (k == 2) = false := by simpa using h2
  have b3 : (k == 3) = false := by simpa using h3
  have b4 : (k == 4) = false := by simpa using h4
  have b5 : (k == 5) = false := by simpa using h5
  go_enter Try.func77, Try.ntmps77
  go_wp2_with fail
  go_ret
  exact ⟨by simp [roleI, h1, h2, h3, h4, h5], rfl⟩
theorem rrole_spec (k : Int) {w : World} {R : Snap} {L : Asrt} (H : Holds w R L) : Calls Try.prog 78 #[.int .i64 k] w fun e w' => e = .returned (.int .i64 (roleI k)) ∧ Holds w' R L := by
  by_cases h0 : k < 1
  · have t0 : decide (k < 1) = true := by simpa using h0
    go_enter Try.func78, Try.ntmps78
    go_wp2_with fail
    go_ret
    exact ⟨ret_int (by unfold roleI; rw [if_neg (by omega), if_neg (by omega), if_neg (by omega)]), H⟩
  have t0 : decide (k < 1) = false := by simpa using h0
  by_cases h6 : 5 < k
  · have t6 : decide (5 < k) = true := by simpa using h6
    go_enter Try.func78, Try.ntmps78
    go_wp2_with fail
    go_ret
    exact ⟨ret_int (by unfold roleI; rw [if_neg (by omega), if_neg (by omega), if_neg (by omega)]), H⟩
  clear t0
  rcases (show k = 1 ∨ k = 2 ∨ k = 3 ∨ k = 4 ∨ k = 5 by omega) with rfl | rfl | rfl | rfl | rfl
  all_goals
    go_enter Try.func78, Try.ntmps78
    go_wp2_with fail
    go_ret
    exact ⟨rfl, H.garbage _⟩
theorem recRight_spec {w : World} {R : Snap} {L : Asrt} (r : Rc) (H : Holds w R L) (hr : r.Rd R.cell?) (hz : r.Sz) :
    Calls Try.prog 76 #[.agg r.cells.toArray] w fun e w' => e = .returned (.bool (rcOk r)) ∧ Holds w' R L := by
  obtain ⟨x, hx⟩ : ∃ x, x = rcOk r := ⟨_, rfl⟩
  rw [← hx]
  obtain ⟨kind, name, attempt, epoch, mark, size, vs, share⟩ := r
  obtain ⟨z1, z2⟩ := hz
  have hs := hr
  simp only [Rc.Rd] at z1 z2 hs
  obtain ⟨as_, cs_, rfl⟩ := hs.form
  have HX := Hid.mk' hx
  have hR := right_spec z1
  obtain ⟨n, hn⟩ : ∃ n, n = share.length := ⟨_, rfl⟩
  have HN := Hid.mk' hn
  obtain ⟨R1, le1, H1, hb⟩ := H.allocR (.cells #[.int .i64 kind, .string name, .int .i64 attempt, .int .i64 epoch, .int .i64 mark, .int .i64 size, .slice as_ share.length cs_] tRec (0, 0))
  simp only [← hn] at hb H1
  show Calls _ _ #[.agg #[.int .i64 kind, .string name, .int .i64 attempt, .int .i64 epoch, .int .i64 mark, .int .i64 size, .slice as_ share.length cs_]] _ _
  simp only [← hn]
  have z3 : n ≤ 1000000 := by omega
  obtain ⟨l1, n1, c1⟩ := Holds.frzFacts (H1) hb
  replace H1 := H1.weaken le1
  clear hs hx H hb z1 z2 hn hr le1
  go_enter Try.func76, Try.ntmps76
  go_wp2_with fail
  refine (hR _).mono ?_
  rintro e w1 ⟨rfl, rfl⟩
  clear hR
  cases h1 : nameOk name with
  | false =>
    go_wp2_with fail
    go_ret
    exact ⟨ret_bool (HX.out.trans (by simp [rcOk, h1])).symm, H1⟩
  | true =>
  have K1 := Hid.mk' h1
  clear h1
  go_wp2_with fail
  refine (number_spec _ _).mono ?_
  rintro e w1 ⟨rfl, rfl⟩
  cases h1 : inOne 4294967295 attempt with
  | false =>
    go_wp2_with fail
    go_ret
    exact ⟨ret_bool (HX.out.trans (by simp [rcOk, inAll, h1])).symm, H1⟩
  | true =>
  have K2 := Hid.mk' h1
  clear h1
  go_wp2_with fail
  refine (number_spec _ _).mono ?_
  rintro e w1 ⟨rfl, rfl⟩
  cases h1 : inOne 4294967295 epoch with
  | false =>
    go_wp2_with fail
    go_ret
    exact ⟨ret_bool (HX.out.trans (by simp [rcOk, inAll, h1])).symm, H1⟩
  | true =>
  have K3 := Hid.mk' h1
  clear h1
  go_wp2_with fail
  refine (number_spec _ _).mono ?_
  rintro e w1 ⟨rfl, rfl⟩
  cases h1 : inOne 4294967295 mark with
  | false =>
    go_wp2_with fail
    go_ret
    exact ⟨ret_bool (HX.out.trans (by simp [rcOk, inAll, h1])).symm, H1⟩
  | true =>
  have K4 := Hid.mk' h1
  clear h1
  by_cases h1 : size < 0
  · have t1 : decide (size < 0) = true := by simpa using h1
    go_wp2_with fail
    go_ret
    exact ⟨ret_bool (HX.out.trans (by simp [rcOk, inAll, inOne]; omega)).symm, H1⟩
  have t1 : decide (size < 0) = false := by simpa using h1
  by_cases h2 : 240 < size
  · have t2 : decide (240 < size) = true := by simpa using h2
    go_wp2_with fail
    go_ret
    exact ⟨ret_bool (HX.out.trans (by simp [rcOk, inAll, inOne]; omega)).symm, H1⟩
  have t2 : decide (240 < size) = false := by simpa using h2
  by_cases h3 : 240 < n
  · have t3 : decide ((240 : Int) < (n : Int)) = true := by simp; omega
    go_wp2_with fail
    go_ret
    exact ⟨ret_bool (HX.out.trans (by have := HN.out; simp [rcOk, inAll, inOne]; omega)).symm, H1⟩
  have t3 : decide ((240 : Int) < (n : Int)) = false := by simp; omega
  go_upto_region 3 with fail
  have b1 : 0 ≤ attempt ∧ attempt ≤ 4294967295 := by have := K2.out; simpa [inOne] using this
  have b2 : 0 ≤ epoch ∧ epoch ≤ 4294967295 := by have := K3.out; simpa [inOne] using this
  have b3 : 0 ≤ mark ∧ mark ≤ 4294967295 := by have := K4.out; simpa [inOne] using this
  obtain ⟨b1, b1'⟩ := b1
  obtain ⟨b2, b2'⟩ := b2
  obtain ⟨b3, b3'⟩ := b3
  have hxx : x = rcKind (⟨kind, name, attempt, epoch, mark, size, .slice as_ share.length cs_, share⟩ : Rc) := by
    rw [HX.out, rcOk]
    have e1 : inAll 4294967295 [attempt, epoch, mark] = true := by simp [inAll, K2.out, K3.out, K4.out]
    have e2 : inAll 240 [size, (share.length : Int)] = true := by have := HN.out; simp [inAll, inOne]; omega
    simp only [K1.out, e1, e2, Bool.true_and]
  replace HX := Hid.mk' hxx
  clear hxx
  clear t1 t2 t3
  by_cases k1 : kind = 1
  · subst k1
    by_cases a1 : 0 < attempt
    · have t1 : decide (0 < attempt) = true := by simpa using a1
      have A1 := Hid.mk' a1
      clear a1
      by_cases a2 : epoch = attempt
      · subst a2
        by_cases a3 : mark = 0
        · subst a3
          go_wp2_with fail
          go_ret
          exact ⟨ret_bool (HX.out.trans (by (have hnn := HN.out); (try have h1 := A1.out); (try have h2 := A2.out); (try have h3 := A3.out); (try have h4 := A4.out); (try have h5 := A5.out); (try have h6 := HAL.out); simp only [rcKind, rcAll]; simp [-List.length_eq_zero_iff] <;> omega)).symm, H1⟩
        · have t3 : (mark == 0) = false := by simpa using a3
          have A3 := Hid.mk' a3
          clear a3
          go_wp2_with fail
          go_ret
          exact ⟨ret_bool (HX.out.trans (by (have hnn := HN.out); (try have h1 := A1.out); (try have h2 := A2.out); (try have h3 := A3.out); (try have h4 := A4.out); (try have h5 := A5.out); (try have h6 := HAL.out); simp only [rcKind, rcAll]; simp [-List.length_eq_zero_iff] <;> omega)).symm, H1⟩
      · have t2 : (epoch == attempt) = false := by simpa using a2
        have A2 := Hid.mk' a2
        clear a2
        go_wp2_with fail
        go_ret
        exact ⟨ret_bool (HX.out.trans (by (have hnn := HN.out); (try have h1 := A1.out); (try have h2 := A2.out); (try have h3 := A3.out); (try have h4 := A4.out); (try have h5 := A5.out); (try have h6 := HAL.out); simp only [rcKind, rcAll]; simp [-List.length_eq_zero_iff] <;> omega)).symm, H1⟩
    · have t1 : decide (0 < attempt) = false := by simpa using a1
      have A1 := Hid.mk' a1
      clear a1
      go_wp2_with fail
      go_ret
      exact ⟨ret_bool (HX.out.trans (by (have hnn := HN.out); (try have h1 := A1.out); (try have h2 := A2.out); (try have h3 := A3.out); (try have h4 := A4.out); (try have h5 := A5.out); (try have h6 := HAL.out); simp only [rcKind, rcAll]; simp [-List.length_eq_zero_iff] <;> omega)).symm, H1⟩
  have q1 : (kind == 1) = false := by simpa using k1
  by_cases k4 : kind = 4
  · subst k4
    clear q1 k1
    by_cases a1 : 0 < mark
    · have t1 : decide (0 < mark) = true := by simpa using a1
      have A1 := Hid.mk' a1
      clear a1
      obtain ⟨s1, hs1⟩ : ∃ s1, s1 = attempt + epoch := ⟨_, rfl⟩
      obtain ⟨s2, hs2⟩ : ∃ s2, s2 = s1 + size := ⟨_, rfl⟩
      obtain ⟨s3, hs3⟩ : ∃ s3, s3 = s2 + (n : Int) := ⟨_, rfl⟩
      have e1 : IntKind.i64.wrap (attempt + epoch) = s1 := by rw [hs1]; exact IntWalk.i64_in _ (by omega)
      have e2 : IntKind.i64.wrap (s1 + size) = s2 := by rw [hs2]; exact IntWalk.i64_in _ (by omega)
      have e3 : IntKind.i64.wrap (s2 + (n : Int)) = s3 := by rw [hs3]; exact IntWalk.i64_in _ (by omega)
      have A5 := Hid.mk' (show s3 = attempt + epoch + size + (n : Int) by omega)
      have f1 : wrap64 (attempt + epoch) = s1 := by rw [hs1]; exact IntWalk.wrap64_in _ (by omega)
      have f2 : wrap64 (s1 + size) = s2 := by rw [hs2]; exact IntWalk.wrap64_in _ (by omega)
      have f3 : wrap64 (s2 + (n : Int)) = s3 := by rw [hs3]; exact IntWalk.wrap64_in _ (by omega)
      have A6 := Hid.mk' (And.intro hs1 (And.intro hs2 hs3))
      by_cases a2 : s3 = 0
      · have t2 : (s3 == 0) = true := by simpa using a2
        have A2 := Hid.mk' a2
        clear a2
        clear hs1 hs2 hs3
        go_wp2_with fail
        go_ret
        exact ⟨ret_bool (HX.out.trans (by (have hnn := HN.out); (try have h1 := A1.out); (try have h2 := A2.out); (try have h3 := A3.out); (try have h4 := A4.out); (try have h5 := A5.out); (try have h6 := HAL.out); simp only [rcKind, rcAll]; simp [-List.length_eq_zero_iff] <;> omega)).symm, H1⟩
      · have t2 : (s3 == 0) = false := by simpa using a2
        have A2 := Hid.mk' a2
        clear a2
        clear hs1 hs2 hs3
        go_wp2_with fail
        go_ret
        exact ⟨ret_bool (HX.out.trans (by (have hnn := HN.out); (try have h1 := A1.out); (try have h2 := A2.out); (try have h3 := A3.out); (try have h4 := A4.out); (try have h5 := A5.out); (try have h6 := HAL.out); simp only [rcKind, rcAll]; simp [-List.length_eq_zero_iff] <;> omega)).symm, H1⟩
    · have t1 : decide (0 < mark) = false := by simpa using a1
      have A1 := Hid.mk' a1
      clear a1
      go_wp2_with fail
      go_ret
      exact ⟨ret_bool (HX.out.trans (by (have hnn := HN.out); (try have h1 := A1.out); (try have h2 := A2.out); (try have h3 := A3.out); (try have h4 := A4.out); (try have h5 := A5.out); (try have h6 := HAL.out); simp only [rcKind, rcAll]; simp [-List.length_eq_zero_iff] <;> omega)).symm, H1⟩
  have q4 : (kind == 4) = false := by simpa using k4
  have fin : ∀ y : Bool, y = rcAll (⟨kind, name, attempt, epoch, mark, size, .slice as_ share.length cs_, share⟩ : Rc) → (kind = 2 ∨ kind = 5 ∨ (kind = 3 ∧ n = 0)) → y = x := by
    intro y hy hk
    rw [HX.out, hy, rcKind, if_neg k1]
    have := HN.out
    rcases hk with h | h | ⟨h, h'⟩
    · rw [if_pos (.inl h)]
    · rw [if_pos (.inr h)]
    · rw [if_neg (by simp only; omega), if_pos h, decide_eq_true (by simp only; omega), Bool.and_true]
  have FIN := Hid.mk' fin
  clear fin
  by_cases k3 : kind = 3
  · subst k3
    clear k1 q1 k4 q4
    by_cases hn0 : n = 0
    · subst hn0
      have HN0 := Hid.mk' (rfl : 0 = 0)
      by_cases a1 : 0 < attempt
      · have t1 : decide (0 < attempt) = true := by simpa using a1
        have A1 := Hid.mk' a1
        clear a1
        by_cases a2 : 0 < epoch
        · have t2 : decide (0 < epoch) = true := by simpa using a2
          have A2 := Hid.mk' a2
          clear a2
          by_cases a3 : 0 < mark
          · have t3 : decide (0 < mark) = true := by simpa using a3
            have A3 := Hid.mk' a3
            clear a3
            go_wp2_with fail
            go_ret
            exact ⟨ret_bool (FIN.out _ (by (try have h1 := A1.out); (try have h2 := A2.out); (try have h3 := A3.out); simp only [rcAll]; simp <;> omega) (by first | trivial | exact HN0.out | simp [HN0.out] | simp)), H1⟩
          · have t3 : decide (0 < mark) = false := by simpa using a3
            have A3 := Hid.mk' a3
            clear a3
            go_wp2_with fail
            go_ret
            exact ⟨ret_bool (FIN.out _ (by (try have h1 := A1.out); (try have h2 := A2.out); (try have h3 := A3.out); simp only [rcAll]; simp <;> omega) (by first | trivial | exact HN0.out | simp [HN0.out] | simp)), H1⟩
        · have t2 : decide (0 < epoch) = false := by simpa using a2
          have A2 := Hid.mk' a2
          clear a2
          go_wp2_with fail
          go_ret
          exact ⟨ret_bool (FIN.out _ (by (try have h1 := A1.out); (try have h2 := A2.out); (try have h3 := A3.out); simp only [rcAll]; simp <;> omega) (by first | trivial | exact HN0.out | simp [HN0.out] | simp)), H1⟩
      · have t1 : decide (0 < attempt) = false := by simpa using a1
        have A1 := Hid.mk' a1
        clear a1
        go_wp2_with fail
        go_ret
        exact ⟨ret_bool (FIN.out _ (by (try have h1 := A1.out); (try have h2 := A2.out); (try have h3 := A3.out); simp only [rcAll]; simp <;> omega) (by first | trivial | exact HN0.out | simp [HN0.out] | simp)), H1⟩
    · have t0 : decide ((0 : Int) < (n : Int)) = true := by simp; omega
      have t1 : 0 < n := by omega
      have A1 := Hid.mk' hn0
      clear hn0
      go_wp2_with fail
      go_ret
      exact ⟨ret_bool (HX.out.trans (by (have hnn := HN.out); (try have h1 := A1.out); (try have h2 := A2.out); (try have h3 := A3.out); (try have h4 := A4.out); (try have h5 := A5.out); (try have h6 := HAL.out); simp only [rcKind, rcAll]; simp [-List.length_eq_zero_iff] <;> omega)).symm, H1⟩
  have q3 : (kind == 3) = false := by simpa using k3
  by_cases k2 : kind = 2
  · subst k2
    clear k1 q1 k4 q4 k3 q3
    by_cases a1 : 0 < attempt
    · have t1 : decide (0 < attempt) = true := by simpa using a1
      have A1 := Hid.mk' a1
      clear a1
      by_cases a2 : 0 < epoch
      · have t2 : decide (0 < epoch) = true := by simpa using a2
        have A2 := Hid.mk' a2
        clear a2
        by_cases a3 : 0 < mark
        · have t3 : decide (0 < mark) = true := by simpa using a3
          have A3 := Hid.mk' a3
          clear a3
          go_wp2_with fail
          go_ret
          exact ⟨ret_bool (FIN.out _ (by (try have h1 := A1.out); (try have h2 := A2.out); (try have h3 := A3.out); simp only [rcAll]; simp <;> omega) (by first | trivial | exact HN0.out | simp [HN0.out] | simp)), H1⟩
        · have t3 : decide (0 < mark) = false := by simpa using a3
          have A3 := Hid.mk' a3
          clear a3
          go_wp2_with fail
          go_ret
          exact ⟨ret_bool (FIN.out _ (by (try have h1 := A1.out); (try have h2 := A2.out); (try have h3 := A3.out); simp only [rcAll]; simp <;> omega) (by first | trivial | exact HN0.out | simp [HN0.out] | simp)), H1⟩
      · have t2 : decide (0 < epoch) = false := by simpa using a2
        have A2 := Hid.mk' a2
        clear a2
        go_wp2_with fail
        go_ret
        exact ⟨ret_bool (FIN.out _ (by (try have h1 := A1.out); (try have h2 := A2.out); (try have h3 := A3.out); simp only [rcAll]; simp <;> omega) (by first | trivial | exact HN0.out | simp [HN0.out] | simp)), H1⟩
    · have t1 : decide (0 < attempt) = false := by simpa using a1
      have A1 := Hid.mk' a1
      clear a1
      go_wp2_with fail
      go_ret
      exact ⟨ret_bool (FIN.out _ (by (try have h1 := A1.out); (try have h2 := A2.out); (try have h3 := A3.out); simp only [rcAll]; simp <;> omega) (by first | trivial | exact HN0.out | simp [HN0.out] | simp)), H1⟩
  have q2 : (kind == 2) = false := by simpa using k2
  by_cases k5 : kind = 5
  · subst k5
    clear k1 q1 k4 q4 k3 q3 k2 q2
    by_cases a1 : 0 < attempt
    · have t1 : decide (0 < attempt) = true := by simpa using a1
      have A1 := Hid.mk' a1
      clear a1
      by_cases a2 : 0 < epoch
      · have t2 : decide (0 < epoch) = true := by simpa using a2
        have A2 := Hid.mk' a2
        clear a2
        by_cases a3 : 0 < mark
        · have t3 : decide (0 < mark) = true := by simpa using a3
          have A3 := Hid.mk' a3
          clear a3
          go_wp2_with fail
          go_ret
          exact ⟨ret_bool (FIN.out _ (by (try have h1 := A1.out); (try have h2 := A2.out); (try have h3 := A3.out); simp only [rcAll]; simp <;> omega) (by first | trivial | exact HN0.out | simp [HN0.out] | simp)), H1⟩
        · have t3 : decide (0 < mark) = false := by simpa using a3
          have A3 := Hid.mk' a3
          clear a3
          go_wp2_with fail
          go_ret
          exact ⟨ret_bool (FIN.out _ (by (try have h1 := A1.out); (try have h2 := A2.out); (try have h3 := A3.out); simp only [rcAll]; simp <;> omega) (by first | trivial | exact HN0.out | simp [HN0.out] | simp)), H1⟩
      · have t2 : decide (0 < epoch) = false := by simpa using a2
        have A2 := Hid.mk' a2
        clear a2
        go_wp2_with fail
        go_ret
        exact ⟨ret_bool (FIN.out _ (by (try have h1 := A1.out); (try have h2 := A2.out); (try have h3 := A3.out); simp only [rcAll]; simp <;> omega) (by first | trivial | exact HN0.out | simp [HN0.out] | simp)), H1⟩
    · have t1 : decide (0 < attempt) = false := by simpa using a1
      have A1 := Hid.mk' a1
      clear a1
      go_wp2_with fail
      go_ret
      exact ⟨ret_bool (FIN.out _ (by (try have h1 := A1.out); (try have h2 := A2.out); (try have h3 := A3.out); simp only [rcAll]; simp <;> omega) (by first | trivial | exact HN0.out | simp [HN0.out] | simp)), H1⟩
  have q5 : (kind == 5) = false := by simpa using k5
  have A1 := Hid.mk' (show ¬ kind = 1 ∧ ¬ kind = 2 ∧ ¬ kind = 3 ∧ ¬ kind = 4 ∧ ¬ kind = 5 from ⟨k1, k2, k3, k4, k5⟩)
  clear k1 k2 k3 k4 k5
  go_wp2_with fail
  go_ret
  obtain ⟨k1, k2, k3, k4, k5⟩ := A1.out
  exact ⟨ret_bool (HX.out.trans (by simp [rcKind, k1, k2, k3, k4, k5])).symm, H1⟩
end Sh
