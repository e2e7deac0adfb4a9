/- Mem Elts Label MsgIn Msg: joined texts, each with its own sentence below. -/
import Derived.Test.YtmogagcffebbaaaRg2
import Derived.Laws.CopyOwn
import Derived.Laws.Rows
import Derived.WalkSpells
/- More words of the heap: many rows of bytes, copy. -/
set_option linter.unusedVariables false
set_option linter.unusedSimpArgs false
namespace Sh
open Go Go.RowKit Go.Proofs
attribute [local go_sem ↓] Go.wp_at_zero Go.wp_at_succ
set_option maxHeartbeats 1000000
set_option maxRecDepth 100000

theorem Asrt.same : ∀ {A B : Asrt}, A.on = B.on → A = B
  | ⟨_, _, _⟩, ⟨_, _, _⟩, rfl => rfl
theorem emp_star (A : Asrt) : star emp A = A := by
  apply Asrt.same
  funext h F
  apply propext
  constructor
  · rintro ⟨F1, F2, h1, h2, _, e⟩
    have : F = F2 := funext fun i => propext ⟨fun hi => ((e i).1 hi).elim (fun x => absurd x (h1 i)) id, fun hi => (e i).2 (.inr hi)⟩
    rw [this]; exact h2
  · intro ha
    exact ⟨fun _ => False, F, fun _ h => h, ha, fun _ h => h.elim, fun i => ⟨.inr, fun h => h.elim (fun h => h.elim) id⟩⟩
theorem star_emp (A : Asrt) : star A emp = A := by rw [star_comm, emp_star]
/-- Many rows of bytes that are owned. -/
def bytesAll : List (Value × List UInt8) → Asrt
  | [] => emp
  | q :: l => star (rowB q.1 q.2) (bytesAll l)
theorem bytesAll_append (l k : List (Value × List UInt8)) : bytesAll (l ++ k) = star (bytesAll l) (bytesAll k) := by
  induction l with
  | nil => show bytesAll k = star emp (bytesAll k); exact (emp_star _).symm
  | cons q l ih => show star _ (bytesAll (l ++ k)) = star (star _ (bytesAll l)) (bytesAll k); rw [ih]; ac_rfl
theorem bytesAll_one (v : Value) (l : List UInt8) : bytesAll [(v, l)] = rowB v l := star_emp _
theorem bytesAll_at {l : List (Value × List UInt8)} {i : Nat} (h : i < l.length) : bytesAll l = star (rowB l[i].1 l[i].2) (star (bytesAll (l.take i)) (bytesAll (l.drop (i + 1)))) := by
  have e : l = l.take i ++ l[i] :: l.drop (i + 1) := by rw [← List.drop_eq_getElem_cons h, List.take_append_drop]
  conv => lhs; rw [e]
  rw [bytesAll_append]
  show star (bytesAll (l.take i)) (star (rowB l[i].1 l[i].2) (bytesAll (l.drop (i + 1)))) = _
  ac_rfl
theorem bytesAll_set {l : List (Value × List UInt8)} {i : Nat} {v : Value} {b : List UInt8} (h : i < l.length) : bytesAll (l.set i (v, b)) = star (rowB v b) (star (bytesAll (l.take i)) (bytesAll (l.drop (i + 1)))) := by
  have h2 : i < (l.set i (v, b)).length := by simpa using h
  have e1 : (l.set i (v, b)).take i = l.take i := by rw [List.take_set, List.set_eq_of_length_le (by simp; omega)]
  have e2 : (l.set i (v, b)).drop (i + 1) = l.drop (i + 1) := by rw [List.drop_set, if_pos (by omega)]
  rw [bytesAll_at h2, e1, e2]
  simp

theorem RdB.at_len {c : Addr → Option Value} {a : Option Addr} {l : List UInt8} {n cap : Nat} (h : RdB c (.slice a l.length cap) l) (e : l.length = n) : RdB c (.slice a n cap) l := by subst e; exact h
theorem Holds.at_len {w : World} {R : Snap} {L : Asrt} {a : Option Addr} {l : List UInt8} {n cap : Nat} (h : Holds w R (star (rowB (.slice a l.length cap) l) L)) (e : l.length = n) : Holds w R (star (rowB (.slice a n cap) l) L) := by subst e; exact h
theorem Holds.toRowB {w : World} {R : Snap} {L : Asrt} {v : Value} {l : List UInt8} {n : Nat} (h : Holds w R (star (row tU8 1 v n (u8s l)) L)) (e : l.length = n) : Holds w R (star (rowB v l) L) := by subst e; exact h
theorem same_self {w : World} {u v : Value} {l : List UInt8} (hu : RdB w.cell? u l) (hv : RdB w.cell? v l) (hl : l.length ≤ 1000000) :
    Calls Try.prog 27 #[u, v] w fun e w' => e = .returned (.bool true) ∧ ∃ q, w' = w.drewN q := by
  refine (same_spec hu hv hl hl).mono ?_
  rintro e w' ⟨rfl, h⟩
  exact ⟨by simp, h⟩
/-- Two owned blocks are apart. -/
theorem Holds.apart {w : World} {R : Snap} {L : Asrt} {b b' : Nat} {cs cs' : Array Value} {t t' : TypeId} (H : Holds w R (star (Sh.blk b cs t) (star (Sh.blk b' cs' t') L))) : b ≠ b' ∧ b' ≠ b := by
  obtain ⟨h1, h2, h3, h4, F, ⟨F1, F2, ⟨_, ha⟩, ⟨F3, F4, ⟨_, hb⟩, hl, hd', he'⟩, hd, he⟩, hR⟩ := H
  have h := hd b ((ha b).2 rfl)
  have : b ≠ b' := fun e => h ((he' b).2 (.inl ((hb b).2 e)))
  exact ⟨this, this.symm⟩
/-- Two results, the first a struct in memory. -/
theorem results_cell2 {P : Program} {fn : Func} {p q : Tmp} {ty : TypeId} (h : fn.results = #[.cell p ty, .tmp q]) (tmps : Array Value) (w : World) (g : Nat) (t : TypeId) (cs : Array Value) (fr : Nat × Nat) (d : TypeDesc)
    (hp : tmps.getD p undef = .pointer (some ⟨g, 0, none⟩)) (hg : w.heap[g]? = some (.cells cs t fr))
    (hu : P.underlying ty = some d) (hd : (match d with | .struct _ | .array _ _ => true | _ => false) = true) (hi : (P.info? ty).map (·.size) = some cs.size) :
    (results fn tmps).run P w = .ok (.tuple #[.agg cs, tmps.getD q undef]) w := by
  have hp' : tmps[p]?.getD undef = .pointer (some ⟨g, 0, none⟩) := by simpa using hp
  simp [results, h, hp', asAddr, run_loadVar_row w g t ty cs fr d hg hu hd hi]
theorem results_cell3 {P : Program} {fn : Func} {p q r : Tmp} {ty : TypeId} (h : fn.results = #[.cell p ty, .tmp q, .tmp r]) (tmps : Array Value) (w : World) (g : Nat) (t : TypeId) (cs : Array Value) (fr : Nat × Nat) (d : TypeDesc)
    (hp : tmps.getD p undef = .pointer (some ⟨g, 0, none⟩)) (hg : w.heap[g]? = some (.cells cs t fr))
    (hu : P.underlying ty = some d) (hd : (match d with | .struct _ | .array _ _ => true | _ => false) = true) (hi : (P.info? ty).map (·.size) = some cs.size) :
    (results fn tmps).run P w = .ok (.tuple #[.agg cs, tmps.getD q undef, tmps.getD r undef]) w := by
  have hp' : tmps[p]?.getD undef = .pointer (some ⟨g, 0, none⟩) := by simpa using hp
  simp [results, h, hp', asAddr, run_loadVar_row w g t ty cs fr d hg hu hd hi]
/-- A row's cells are laid anew. -/
theorem Holds.rowAll {w : World} {R : Snap} {L : Asrt} {t : TypeId} {size n cap g : Nat} {xs : List Value} (H : Holds w R (star (row t size (.slice (some ⟨g, 0, none⟩) n cap) n xs) L)) :
    ∃ cur, w.heap[g]? = some (.cells cur t (0, 0)) ∧ cur.size = cap * size ∧ n ≤ cap ∧ cur.toList.take (n * size) = xs ∧
      ∀ cur2 : Array Value, cur2.size = cur.size → Holds (w.setRow g cur2) R (star (row t size (.slice (some ⟨g, 0, none⟩) n cap) n (cur2.toList.take (n * size))) L) := by
  obtain ⟨F, hF, k⟩ := H.upd
  obtain ⟨hl, c⟩ := hF
  rcases c with ⟨h, _⟩ | ⟨g', cap', cur, e1, e2, r1, r2, r3, r4, e⟩
  · cases h
  · simp only [Value.slice.injEq, Option.some.injEq, Addr.mk.injEq, true_and] at e1
    obtain ⟨⟨rfl, _⟩, rfl⟩ := e1
    have e2' : w.heap[g]? = some (.cells cur t (0, 0)) := e2
    refine ⟨cur, e2', r3, r1, r4, fun cur2 h2 => ?_⟩
    have hle : n * size ≤ cap * size := Nat.mul_le_mul_right _ r1
    refine k _ _ F ⟨by simp; omega, .inr ⟨g, cap, cur2, rfl, ?_, r1, r2, by omega, rfl, e⟩⟩ rfl rfl rfl (fun i hi hn => setRow_other w g i cur2 (fun h => hn ((e i).2 h))) (fun i hi => .inl hi)
    exact setRow_heap w g cur cur2 t _ e2'

theorem sizeU8 : (Try.prog.info? tU8).map (·.size) = some 1 := by
  obtain ⟨i, hi, _, hs, _⟩ := info_parts infoU8
  rw [hi, ← hs]; rfl
/-- 'copy(d, s)' of bytes into an owned row. -/
theorem wpList_copyB {w : World} {R : Snap} {L : Asrt} {v u : Value} {l k : List UInt8} {ops : Array Oper} {rest : List Oper} {o : Oper} {a : Act} {Q : Exit → Act → World → Prop} (hgd : o.guard = none) (d s : Operand)
    (ho : o.op = .call { callee := .builtin .copy, args := #[d, s], argTypes := #[tBytes, tBytes] })
    (hd : a.eval d = v) (hs : a.eval s = u) (H : Holds w R (star (rowB v l) L)) (hr : RdB w.cell? u k)
    (hK : ∀ w', Holds w' R (star (rowB v (k.take l.length ++ l.drop k.length)) L) → wpList Try.prog ops Q rest (a.put o.dst (.int .i64 (min k.length l.length : Nat))) w') : wpList Try.prog ops Q (o :: rest) a w := by
  obtain ⟨au, cu, rfl⟩ := hr.form
  by_cases h0 : min k.length l.length = 0
  · obtain ⟨av, cv, rfl⟩ := H.rowRd.form
    refine wpList_copy_nothing (P := Try.prog) hgd d s tBytes tBytes ho tU8 undBytes sizeU8 _ _ _ _ _ _ hd hs h0 ?_
    have e : k.take l.length ++ l.drop k.length = l := by
      by_cases hk : k.length = 0
      · rw [List.eq_nil_of_length_eq_zero hk]; simp
      · have hl : l.length = 0 := by omega
        rw [List.eq_nil_of_length_eq_zero hl]; simp
    have := hK w (by rw [e]; exact H)
    rw [h0] at this
    exact this
  · obtain ⟨g, cap, rfl, _⟩ := H.rowAt (by omega)
    obtain ⟨b, o2, rfl, hc⟩ := RdB.open hr (by omega)
    obtain ⟨cur, hg, hcur, hcap, htk, hset⟩ := H.rowAll
    rw [Nat.mul_one] at hcur htk
    refine wpList_copy_own (P := Try.prog) hgd d s tBytes tBytes ho tU8 undBytes sizeU8 g 0 _ cap ⟨b, o2, none⟩ _ cu hd hs cur tU8 hg (u8s (k.take l.length)) (by rw [u8s_length, List.length_take]; exact Nat.min_comm _ _) ?_ ?_ (u8s_one _) ?_
    · intro j x hx
      rw [add_plain]
      have hj : j < (k.take l.length).length := by
        have := (List.getElem?_eq_some_iff.1 hx).1
        rwa [u8s_length] at this
      rw [u8s_get _ _ hj, Option.some.injEq] at hx
      subst hx
      have hj2 : j < k.length := by rw [List.length_take] at hj; omega
      rw [hc j hj2]
      simp
    · rw [u8s_length, List.length_take]; omega
    · have H2 := hset (cur.toList.take 0 ++ (u8s (k.take l.length) ++ cur.toList.drop (0 + (u8s (k.take l.length)).length))).toArray (by
        simp; omega)
      have e : (cur.toList.take 0 ++ (u8s (k.take l.length) ++ cur.toList.drop (0 + (u8s (k.take l.length)).length))).take (l.length * 1) = u8s (k.take l.length ++ l.drop k.length) := by
        rw [List.take_zero, List.nil_append, u8s_append, Nat.zero_add, Nat.mul_one, List.take_append, u8s_length, List.length_take]
        congr 1
        · rw [List.take_of_length_le (by rw [u8s_length, List.length_take]; omega)]
        · rw [← u8s_drop, ← htk, ← List.drop_take]
          by_cases hk : k.length ≤ l.length
          · rw [show min l.length k.length = k.length from by omega]
          · rw [List.drop_of_length_le (by rw [List.length_take]; omega), List.drop_of_length_le (by rw [List.length_take]; omega)]
      rw [e] at H2
      have e3 : (k.take l.length ++ l.drop k.length).length = l.length := by simp; omega
      have h4 := hK _ (by
        show Holds _ R (star (row tU8 1 _ (k.take l.length ++ l.drop k.length).length _) L)
        rw [e3]; exact H2)
      have e4 : (u8s (k.take l.length)).length = min k.length l.length := by rw [u8s_length, List.length_take]; exact Nat.min_comm _ _
      show wpList _ _ _ _ (a.put o.dst (goInt ((u8s (k.take l.length)).length : Nat))) _
      rw [e4] at h4 ⊢
      exact h4
end Sh
/- Rows of structs: copy, and a store of an element. -/
set_option linter.unusedVariables false
set_option linter.unusedSimpArgs false
namespace Sh
open Go Go.RowKit Go.Proofs
attribute [local go_sem ↓] Go.wp_at_zero Go.wp_at_succ
set_option maxHeartbeats 1000000
set_option maxRecDepth 100000

section
variable {P : Program}
theorem run_copy_rowS (w : World) (dT sT ty elem : TypeId) (g o dLen dCap : Nat) (a : Addr) (sLen sCap size : Nat) (cur : Array Value) (t : TypeId) (cs : List Value)
    (hu : P.underlying dT = some (.slice elem)) (hs : (P.info? elem).map (·.size) = some size)
    (hg : w.heap[g]? = some (.cells cur t (0, 0))) (hn : cs.length = Nat.min sLen dLen * size)
    (hsrc : ∀ j v, cs[j]? = some v → w.cell? (a.add j) = some v) (hfit : o + cs.length ≤ cur.size) (h1 : ∀ v ∈ cs, v.oneCell' = true) :
    (Builtin.copy_ #[dT, sT] ty #[.slice (some ⟨g, o, none⟩) dLen dCap, .slice (some a) sLen sCap]).run P w =
      .ok (goInt (Nat.min sLen dLen)) (w.setRow g (cur.toList.take o ++ cs ++ cur.toList.drop (o + cs.length)).toArray) := by
  have hl := run_loadCells_list (P := P) w a cs hsrc
  have hst := run_storeCells_at P g o t cs 0 cur w hg (by simpa using hfit) h1
  cases hq : P.info? elem with
  | none => simp [hq] at hs
  | some i =>
    have hi : i.size = size := by simpa [hq] using hs
    simp [Builtin.copy_, run_underlying hu, Builtin.lenOf, Builtin.firstCells, Go.sizeOf, typeInfo, hq, hi, ← hn, hl, hst]
theorem run_copy_noneS (w : World) (dT sT ty elem : TypeId) (d a : Option Addr) (dLen dCap sLen sCap size : Nat) (hu : P.underlying dT = some (.slice elem)) (hs : (P.info? elem).map (·.size) = some size) (hn : Nat.min sLen dLen = 0) :
    (Builtin.copy_ #[dT, sT] ty #[.slice d dLen dCap, .slice a sLen sCap]).run P w = .ok (goInt 0) w := by
  cases hq : P.info? elem with
  | none => simp [hq] at hs
  | some i =>
    have hl : ∀ (x : Addr), (loadCells x 0).run P w = .ok #[] w := fun x => by simpa using run_loadCells_list (P := P) w x [] (by simp)
    cases d <;> cases a <;> simp [Builtin.copy_, run_underlying hu, Builtin.lenOf, Builtin.firstCells, Go.sizeOf, typeInfo, hq, hn, storeCells, hl]
theorem splice_take {α : Type} {c y : List α} {A B N : Nat} (hy : y.length = B) (h1 : A + B ≤ N) (h2 : N ≤ c.length) : (c.take A ++ (y ++ c.drop (A + B))).take N = (c.take N).take A ++ (y ++ (c.take N).drop (A + B)) := by
  have hl : (c.take A).length = A := by simp; omega
  have e1 : (c.take A).take N = c.take A := List.take_of_length_le (by omega)
  have e2 : y.take (N - A) = y := List.take_of_length_le (by omega)
  have e3 : (c.take N).take A = c.take A := by rw [List.take_take, Nat.min_eq_left (by omega)]
  rw [List.take_append, hl, List.take_append, hy, e1, e2, e3, List.drop_take, show N - A - B = N - (A + B) by omega]
theorem wp_copyS {w : World} {R : Snap} {L : Asrt} {o : Oper} {a : Act} {K : Act → World → Prop} {Q : Exit → Act → World → Prop} (d s : Operand) (dT sT elem : TypeId)
    (ho : o.op = .call { callee := .builtin .copy, args := #[d, s], argTypes := #[dT, sT] }) (hu : P.underlying dT = some (.slice elem)) {size : Nat} (hsz : (P.info? elem).map (·.size) = some size)
    {g n cap off dLen dCap m sCap : Nat} {dp sp : Option Addr} {xs ys : List Value} (H : Holds w R (star (row elem size (.slice (some ⟨g, 0, none⟩) n cap) n xs) L))
    (hd : a.eval d = .slice dp dLen dCap) (hs : a.eval s = .slice sp m sCap) (hoff : off + dLen = n) (hdp : 0 < dLen → dp = some ⟨g, off * size, none⟩) (hpos : 0 < size)
    (hr : Rd w.cell? size (.slice sp m sCap) m ys) (hone : ∀ y ∈ ys, y.oneCell' = true)
    (hK : ∀ w', Holds w' R (star (row elem size (.slice (some ⟨g, 0, none⟩) n cap) n (xs.take (off * size) ++ (ys.take (min m dLen * size) ++ xs.drop ((off + min m dLen) * size)))) L) → K (a.put o.dst (.int .i64 (min m dLen : Nat))) w') : o.wp P a w K Q := by
  have hyl := hr.len
  by_cases h0 : min m dLen = 0
  · have hrun := run_copy_noneS (P := P) w dT sT o.type elem dp sp dLen dCap m sCap size hu hsz h0
    have h1 := hK w (by rw [h0, Nat.zero_mul, List.take_zero, List.nil_append, Nat.add_zero, List.take_append_drop]; exact H)
    rw [h0] at h1
    unfold Oper.wp
    simp [execOp, ho, resolve, invoke, builtin, hd, hs, hrun, Result.andThen]
    exact h1
  · obtain ⟨cur, hg, hcur, hcap, htk, hset⟩ := H.rowAll
    obtain rfl := hdp (by omega)
    have hm0 : 0 < m * size := Nat.mul_pos (by omega) hpos
    obtain ⟨b1, o1, rfl, hc⟩ := hr.open hm0
    have hk1 : min m dLen * size ≤ m * size := Nat.mul_le_mul_right _ (by omega)
    have hcl : (ys.take (min m dLen * size)).length = min m dLen * size := by rw [List.length_take]; omega
    have hfit : (off + min m dLen) * size ≤ cap * size := Nat.mul_le_mul_right _ (by omega)
    rw [Nat.add_mul] at hfit
    have hrun := run_copy_rowS (P := P) w dT sT o.type elem g (off * size) dLen dCap ⟨b1, o1, none⟩ m sCap size cur elem (ys.take (min m dLen * size)) hu hsz hg hcl (fun j v hv => by
      rw [add_plain]
      rw [List.getElem?_take] at hv
      split at hv
      · exact hc j v hv
      · cases hv) (by rw [hcl]; omega) (fun v hv => hone v (List.mem_of_mem_take hv))
    have h2 := hset (cur.toList.take (off * size) ++ ys.take (min m dLen * size) ++ cur.toList.drop (off * size + (ys.take (min m dLen * size)).length)).toArray (by simp; omega)
    have e : ((cur.toList.take (off * size) ++ ys.take (min m dLen * size) ++ cur.toList.drop (off * size + (ys.take (min m dLen * size)).length)).toArray.toList.take (n * size)) = xs.take (off * size) ++ (ys.take (min m dLen * size) ++ xs.drop ((off + min m dLen) * size)) := by
      rw [List.append_assoc, hcl]
      have hn : (off + min m dLen) * size ≤ n * size := Nat.mul_le_mul_right _ (by omega)
      have hnc : n * size ≤ cap * size := Nat.mul_le_mul_right _ hcap
      rw [Nat.add_mul] at hn ⊢
      have h := splice_take (c := cur.toList) (y := ys.take (min m dLen * size)) (A := off * size) (B := min m dLen * size) (N := n * size) hcl hn (by simp; omega)
      rw [htk] at h
      exact h
    rw [e] at h2
    have h3 := hK _ h2
    unfold Oper.wp
    simp only [execOp, ho, resolve, invoke, builtin, Sem.run_bind, Sem.run_pure, Result.andThen_ok, List.map_toArray, List.map_cons, List.map_nil, hd, hs, hrun]
    exact h3
theorem step_copyS {w : World} {R : Snap} {L : Asrt} {ops : Array Oper} {o : Oper} {a : Act} {K : Act → World → Prop} {Q : Exit → Act → World → Prop} {E : Prop} (hgd : o.guard = none) (d s : Operand) (dT sT elem : TypeId)
    (ho : o.op = .call { callee := .builtin .copy, args := #[d, s], argTypes := #[dT, sT] }) (hu : P.underlying dT = some (.slice elem)) {size : Nat} (hsz : (P.info? elem).map (·.size) = some size)
    {g n cap off dLen dCap m sCap : Nat} {dp sp : Option Addr} {xs ys : List Value} (H : Holds w R (star (row elem size (.slice (some ⟨g, 0, none⟩) n cap) n xs) L))
    (hd : a.eval d = .slice dp dLen dCap) (hs : a.eval s = .slice sp m sCap) (hoff : off + dLen = n) (hdp : 0 < dLen → dp = some ⟨g, off * size, none⟩) (hpos : 0 < size)
    (hr : Rd w.cell? size (.slice sp m sCap) m ys) (hone : ∀ y ∈ ys, y.oneCell' = true)
    (hK : ∀ w', Holds w' R (star (row elem size (.slice (some ⟨g, 0, none⟩) n cap) n (xs.take (off * size) ++ (ys.take (min m dLen * size) ++ xs.drop ((off + min m dLen) * size)))) L) → K (a.put o.dst (.int .i64 (min m dLen : Nat))) w') : if Region.wanted o (yielded ops a.tmps) = true then Oper.wp P o a w K Q else E := by
  rw [if_pos (by simp [Region.wanted, hgd])]
  exact wp_copyS d s dT sT elem ho hu hsz H hd hs hoff hdp hpos hr hone hK
end

theorem flat_take {α : Type} (f : α → List Value) (k : Nat) (hk : ∀ x, (f x).length = k) : ∀ (l : List α) (n : Nat), (l.flatMap f).take (n * k) = (l.take n).flatMap f
  | [], n => by simp
  | x :: l, 0 => by simp
  | x :: l, n + 1 => by
    rw [List.flatMap_cons, List.take_append, List.take_of_length_le (by rw [hk, Nat.succ_mul]; omega), hk, show (n + 1) * k - k = n * k by rw [Nat.succ_mul]; omega, flat_take f k hk l n]; rfl
theorem flat_drop {α : Type} (f : α → List Value) (k : Nat) (hk : ∀ x, (f x).length = k) : ∀ (l : List α) (n : Nat), (l.flatMap f).drop (n * k) = (l.drop n).flatMap f
  | [], n => by simp
  | x :: l, 0 => by simp
  | x :: l, n + 1 => by
    rw [List.flatMap_cons, List.drop_append, List.drop_of_length_le (by rw [hk, Nat.succ_mul]; omega), hk, List.nil_append, show (n + 1) * k - k = n * k by rw [Nat.succ_mul]; omega, flat_drop f k hk l n]; rfl
/-- A store of an element of four cells. -/
theorem flat_set4 {α : Type} (f : α → List Value) (hk : ∀ x, (f x).length = 4) : ∀ (l : List α) (j : Nat) (x : α) (c0 c1 c2 c3 : Value), f x = [c0, c1, c2, c3] → j < l.length → ((((l.flatMap f).set (j * 4) c0).set (j * 4 + 1) c1).set (j * 4 + 2) c2).set (j * 4 + 3) c3 = (l.set j x).flatMap f
  | [], j, _, _, _, _, _, _, h => by simp at h
  | y :: l, 0, x, c0, c1, c2, c3, hx, _ => by
    have hy := hk y
    match hfy : f y, hy with
    | [d0, d1, d2, d3], _ =>
      rw [List.flatMap_cons, hfy, List.set_cons_zero, List.flatMap_cons, hx]; rfl
  | y :: l, j + 1, x, c0, c1, c2, c3, hx, h => by
    have hy := hk y
    have ih := flat_set4 f hk l j x c0 c1 c2 c3 hx (by simpa using h)
    match hfy : f y, hy with
    | [d0, d1, d2, d3], _ =>
      rw [List.flatMap_cons, hfy, List.set_cons_succ, List.flatMap_cons, hfy, ← ih, show (j + 1) * 4 = j * 4 + 4 by omega]
      rfl
theorem Holds.rowSet4 {α : Type} {w : World} {R : Snap} {L : Asrt} {t : TypeId} {n cap g : Nat} (f : α → List Value) (hk : ∀ x, (f x).length = 4) {X : List α} (H : Holds w R (star (row t 4 (.slice (some ⟨g, 0, none⟩) n cap) n (X.flatMap f)) L)) {j : Nat} (x : α) {c0 c1 c2 c3 : Value} (hx : f x = [c0, c1, c2, c3]) (hj : j < X.length) (hn : X.length = n) :
    Holds ((((w.setCell ⟨g, j * 4, none⟩ c0).setCell ⟨g, j * 4 + 1, none⟩ c1).setCell ⟨g, j * 4 + 2, none⟩ c2).setCell ⟨g, j * 4 + 3, none⟩ c3) R (star (row t 4 (.slice (some ⟨g, 0, none⟩) n cap) n ((X.set j x).flatMap f)) L) := by
  rw [← flat_set4 f hk X j x c0 c1 c2 c3 hx hj]
  exact ((((H.rowSet (j * 4) c0 (by omega)).rowSet (j * 4 + 1) c1 (by omega)).rowSet (j * 4 + 2) c2 (by omega)).rowSet (j * 4 + 3) c3 (by omega))
theorem rd_elt {α : Type} {c : Addr → Option Value} {size n cap : Nat} {a : Option Addr} {l : List α} {f : α → List Value} (hf : ∀ x, (f x).length = size) (h : Rd c size (.slice a n cap) l.length (l.flatMap f)) (hs : 0 < size) {j : Nat} (hj : j < l.length) :
    ∃ b o, a = some ⟨b, o, none⟩ ∧ ∀ r u, r < size → (f l[j])[r]? = some u → c ⟨b, o + (j * size + r), none⟩ = some u := by
  have e : n = l.length := by
    obtain ⟨a', cap', e1, _⟩ := h
    simp only [Value.slice.injEq] at e1; exact e1.2.1
  subst e
  obtain ⟨b, o, rfl, hc⟩ := h.open (Nat.mul_pos (by omega) hs)
  exact ⟨b, o, rfl, fun r u hr hu => hc _ _ (by rw [flat_get f size hf l j r hj hr]; exact hu)⟩
end Sh
/- label.Right and sherdref07.Right. -/
set_option linter.unusedVariables false
set_option linter.unusedSimpArgs false
namespace Sh
open Go Go.RowKit Go.Proofs
attribute [local go_sem ↓] Go.wp_at_zero Go.wp_at_succ
set_option maxHeartbeats 1000000
set_option maxRecDepth 100000

def signI (c : Int) : Bool := decide ((97 ≤ c ∧ c ≤ 122) ∨ (48 ≤ c ∧ c ≤ 57) ∨ c = 45)
def nameL (l : List UInt8) : Bool := decide (1 ≤ l.length ∧ l.length ≤ 16 ∧ l.getD 0 0 ≠ 45 ∧ ∀ c ∈ l, signI c.toNat = true)
abbrev nameOk (s : ByteArray) : Bool := nameL s.data.toList
theorem sign_spec (c : Int) (h0 : 0 ≤ c) (h : c ≤ 255) (w : World) : Calls Try.prog 178 #[.int .u8 c] w fun e w' => e = .returned (.bool (signI c)) ∧ w = w' := by
  by_cases h1 : 97 ≤ c
  · by_cases h2 : c ≤ 122
    · rw [show signI c = true from by simp [signI]; omega]
      go_enter Try.func178, Try.ntmps178
      go_wp2_with fail
      go_ret
      exact ⟨rfl, rfl⟩
    · have t2 : decide (c ≤ 122) = false := by simpa using h2
      have t5 : (c == 45) = false := by simp; omega
      have t6 : decide (c ≤ 57) = false := by simp; omega
      rw [show signI c = false from by rw [Bool.eq_false_iff]; simp [signI]; omega]
      go_enter Try.func178, Try.ntmps178
      go_wp2_with fail
      go_ret
      exact ⟨rfl, rfl⟩
  · have t1 : decide (97 ≤ c) = false := by simpa using h1
    by_cases h3 : 48 ≤ c
    · by_cases h4 : c ≤ 57
      · rw [show signI c = true from by simp [signI]; omega]
        go_enter Try.func178, Try.ntmps178
        go_wp2_with fail
        go_ret
        exact ⟨rfl, rfl⟩
      · have t4 : decide (c ≤ 57) = false := by simpa using h4
        rw [show signI c = (c == 45) from by rw [Bool.eq_iff_iff]; simp [signI]; omega]
        go_enter Try.func178, Try.ntmps178
        go_wp2_with fail
        go_ret
        exact ⟨rfl, rfl⟩
    · have t3 : decide (48 ≤ c) = false := by simpa using h3
      rw [show signI c = (c == 45) from by rw [Bool.eq_iff_iff]; simp [signI]; omega]
      go_enter Try.func178, Try.ntmps178
      go_wp2_with fail
      go_ret
      exact ⟨rfl, rfl⟩
theorem nameL_no {l : List UInt8} {j : Nat} (h : j < l.length) (hs : signI (l[j].toNat : Int) = false) : nameL l = false := by
  rw [nameL, decide_eq_false_iff_not]
  intro h2
  have := h2.2.2.2 _ (List.getElem_mem h)
  rw [hs] at this; cases this
theorem nameL_all {l : List UInt8} (h1 : 1 ≤ l.length) (h2 : l.length ≤ 16) (h3 : l.getD 0 0 ≠ 45) (h : ∀ j (h : j < l.length), signI (l[j].toNat : Int) = true) : nameL l = true := by
  rw [nameL, decide_eq_true_eq]
  refine ⟨h1, h2, h3, fun c hc => ?_⟩
  obtain ⟨j, hj, rfl⟩ := List.getElem_of_mem hc
  exact h j hj
theorem right_spec {s : ByteArray} (hs : s.size ≤ maxLen) (w : World) : Calls Try.prog 105 #[.string s] w fun e w' => e = .returned (.bool (nameOk s)) ∧ w = w' := by
  unfold maxLen at hs
  obtain ⟨l, hl⟩ : ∃ l, l = s.data.toList := ⟨_, rfl⟩
  have hls : l.length = s.size := by rw [hl]; simp
  unfold nameOk
  rw [← hl]
  by_cases h0 : s.size = 0
  · have t0 : s.toList = [] := by
      rw [ByteArray.toList_eq]; exact List.eq_nil_of_length_eq_zero (by simpa using h0)
    have t1 : (!s.toList.isEmpty) = false := by rw [t0]; rfl
    have e1 : nameL l = false := by rw [nameL, decide_eq_false_iff_not]; omega
    rw [e1]
    clear e1 hls hl
    go_enter Try.func105, Try.ntmps105
    go_wp2_with fail
    go_ret
    exact ⟨rfl, rfl⟩
  · have t1 : s.toList.isEmpty = false := by
      rw [ByteArray.toList_eq]
      cases h : s.data.toList with
      | nil => rw [hl, h] at hls; simp at hls; omega
      | cons a t => rfl
    by_cases h16 : s.size ≤ 16
    · have t2 : decide ((16 : Int) < s.size) = false := by simp; omega
      have hs1 : 1 ≤ s.size := by omega
      have hget : ∀ j (h : j < s.size) (h' : j < l.length), l[j] = s[j] := fun j h h' => by simp only [hl]; rfl
      have HG := Hid.mk' hget
      have HLS := Hid.mk' hls
      have hd0 : l.getD 0 0 = s[0] := by rw [← hget 0 (by omega) (by omega), List.getD, List.getElem?_eq_getElem (by omega)]; rfl
      have HD0 := Hid.mk' hd0
      clear hget hls hl hd0
      by_cases hd : s[0] = 45
      · have t3 : ((s[0].toNat : Int) == 45) = true := by rw [hd]; rfl
        have e1 : nameL l = false := by rw [nameL, decide_eq_false_iff_not]; intro h; exact h.2.2.1 (HD0.out.trans hd)
        rw [e1]
        clear e1 hd
        go_enter Try.func105, Try.ntmps105
        go_wp2_with fail
        go_ret
        exact ⟨rfl, rfl⟩
      · have t3 : ((s[0].toNat : Int) == 45) = false := by
          rw [Bool.eq_false_iff]; intro h; apply hd; apply UInt8.toNat_inj.1
          have := beq_iff_eq.1 h; rw [show (45 : UInt8).toNat = 45 from rfl]; omega
        have HD := Hid.mk' hd
        clear hd
        go_enter Try.func105, Try.ntmps105
        go_wp2_with fail
        go_loop [18] (fun i => ∃ j : Nat, i = .int .i64 j ∧ j ≤ s.size ∧ Hid (∀ k (h : k < l.length), k < j → signI (l[k].toNat : Int) = true)) (fun i => s.size - (intOf i).toNat)
        case atStart => exact ⟨0, rfl, Nat.zero_le _, Hid.mk' fun k _ h => by omega⟩
        case round =>
          obtain ⟨j, rfl, hj, hall⟩ := hrel
          by_cases hlt : j < s.size
          · have hjl : j < l.length := by rw [HLS.out]; exact hlt
            have hx := u8_lt s[j]
            have hsg := sign_spec (s[j].toNat : Int) (by omega) (by omega) w
            have hno : Hid (signI (s[j].toNat : Int) = false → nameL l = false) := Hid.mk' fun h => nameL_no hjl (by rw [HG.out j hlt hjl]; exact h)
            have hyes : Hid (signI (s[j].toNat : Int) = true → ∀ k (h : k < l.length), k < j + 1 → signI (l[k].toNat : Int) = true) := Hid.mk' fun h k hk hkj => by
              rcases Nat.lt_or_ge k j with h2 | h2
              · exact hall.out k hk h2
              · obtain rfl : k = j := by omega
                rw [HG.out k hlt hk]; exact h
            cases hc : signI (s[j].toNat : Int) with
            | true =>
              rw [hc] at hsg
              have hy2 := Hid.mk' (hyes.out hc)
              clear hc hno hyes
              go_wp2_with fail
              refine hsg.mono ?_
              rintro e w1 ⟨rfl, rfl⟩
              go_wp2_with fail
              go_round
              case rel => exact ⟨j + 1, by go_num, hlt, hy2⟩
              case measure => simp [intOf]; omega
            | false =>
              rw [hc] at hsg
              have hn2 := Hid.mk' (hno.out hc)
              clear hc hno hyes
              go_wp2_with fail
              refine hsg.mono ?_
              rintro e w1 ⟨rfl, rfl⟩
              go_wp2_with fail
              go_ret
              exact ⟨ret_bool hn2.out.symm, rfl⟩
          · go_wp2_with fail
            go_ret
            refine ⟨ret_bool (nameL_all (by rw [HLS.out]; exact hs1) (by rw [HLS.out]; exact h16) (by rw [HD0.out]; exact HD.out) fun k hk => ?_).symm, rfl⟩
            exact hall.out k hk (by have := HLS.out; omega)
    · have t2 : decide ((16 : Int) < s.size) = true := by simp; omega
      have e1 : nameL l = false := by rw [nameL, decide_eq_false_iff_not]; omega
      rw [e1]
      clear e1 hls hl
      go_enter Try.func105, Try.ntmps105
      go_wp2_with fail
      go_ret
      exact ⟨rfl, rfl⟩
theorem rright_spec {s : ByteArray} (hs : s.size ≤ maxLen) (w : World) : Calls Try.prog 106 #[.string s] w fun e w' => e = .returned (.bool (nameOk s)) ∧ w = w' := by
  unfold maxLen at hs
  obtain ⟨l, hl⟩ : ∃ l, l = s.data.toList := ⟨_, rfl⟩
  have hls : l.length = s.size := by rw [hl]; simp
  unfold nameOk
  rw [← hl]
  by_cases h0 : s.size < 1
  · have e1 : nameL l = false := by rw [nameL, decide_eq_false_iff_not]; omega
    rw [e1]
    clear e1 hls hl
    go_enter Try.func106, Try.ntmps106
    go_wp2_with fail
    go_ret
    exact ⟨rfl, rfl⟩
  · have t1 : decide ((s.size : Int) < 1) = false := by simp; omega
    by_cases h16 : s.size ≤ 16
    · have t2 : decide ((16 : Int) < s.size) = false := by simp; omega
      have hs1 : 1 ≤ s.size := by omega
      have hget : ∀ j (h : j < s.size) (h' : j < l.length), l[j] = s[j] := fun j h h' => by simp only [hl]; rfl
      have HG := Hid.mk' hget
      have HLS := Hid.mk' hls
      clear hget hls hl
      go_enter Try.func106, Try.ntmps106
      go_wp2_with fail
      go_loop [3] (fun i => ∃ j : Nat, i = .int .i64 j ∧ j ≤ s.size ∧ Hid ((0 < j → l.getD 0 0 ≠ 45) ∧ ∀ k (h : k < l.length), k < j → signI (l[k].toNat : Int) = true)) (fun i => s.size - (intOf i).toNat)
      case atStart => exact ⟨0, rfl, Nat.zero_le _, Hid.mk' ⟨fun h => by omega, fun k _ h => by omega⟩⟩
      case round =>
        obtain ⟨j, rfl, hj, hall⟩ := hrel
        by_cases hlt : j < s.size
        · have hjl : j < l.length := by rw [HLS.out]; exact hlt
          have hx := u8_lt s[j]
          have hno : Hid (signI (s[j].toNat : Int) = false → nameL l = false) := Hid.mk' fun h => nameL_no hjl (by rw [HG.out j hlt hjl]; exact h)
          have hyes : Hid (signI (s[j].toNat : Int) = true → (j = 0 → (s[j].toNat : Int) ≠ 45) → (0 < j + 1 → l.getD 0 0 ≠ 45) ∧ ∀ k (h : k < l.length), k < j + 1 → signI (l[k].toNat : Int) = true) := Hid.mk' fun h h4 => ⟨fun _ => by
            rcases Nat.eq_zero_or_pos j with h5 | h5
            · subst h5
              rw [List.getD, List.getElem?_eq_getElem hjl, Option.getD_some, HG.out 0 hlt hjl]
              intro h6; exact h4 rfl (by rw [h6]; rfl)
            · exact hall.out.1 h5, fun k hk hkj => by
            rcases Nat.lt_or_ge k j with h2 | h2
            · exact hall.out.2 k hk h2
            · obtain rfl : k = j := by omega
              rw [HG.out k hlt hk]; exact h⟩
          have hbad0 : Hid (j = 0 → (s[j].toNat : Int) = 45 → nameL l = false) := Hid.mk' fun h1 h2 => by
            subst h1
            rw [nameL, decide_eq_false_iff_not]
            intro h
            apply h.2.2.1
            rw [List.getD, List.getElem?_eq_getElem hjl, Option.getD_some, HG.out 0 hlt hjl]
            apply UInt8.toNat_inj.1; rw [show (45 : UInt8).toNat = 45 from rfl]; omega
          have hc0 : (0 : Int) ≤ (s[j].toNat : Int) := by omega
          by_cases ha : 97 ≤ (s[j].toNat : Int) ∧ (s[j].toNat : Int) ≤ 122
          · obtain ⟨ha1, ha2⟩ := ha
            have tb : decide (48 ≤ (s[j].toNat : Int)) = true := by simp; omega
            have tb2 : decide ((s[j].toNat : Int) ≤ 57) = false := by simp; omega
            have hy2 := Hid.mk' (hyes.out (by simp [signI]; omega) (by omega))
            clear hno hyes hbad0
            go_wp2_with fail
            go_round
            case rel => exact ⟨j + 1, by go_num, hlt, hy2⟩
            case measure => simp [intOf]; omega
          · have hnl : decide (97 ≤ (s[j].toNat : Int)) = false ∨ (decide (97 ≤ (s[j].toNat : Int)) = true ∧ decide ((s[j].toNat : Int) ≤ 122) = false) := by simp; omega
            by_cases hb : 48 ≤ (s[j].toNat : Int) ∧ (s[j].toNat : Int) ≤ 57
            · obtain ⟨hb1, hb2⟩ := hb
              have tb : decide (97 ≤ (s[j].toNat : Int)) = false := by simp; omega
              have hy2 := Hid.mk' (hyes.out (by simp [signI]; omega) (by omega))
              clear hno hyes hbad0 ha hnl
              go_wp2_with fail
              go_round
              case rel => exact ⟨j + 1, by go_num, hlt, hy2⟩
              case measure => simp [intOf]; omega
            · have hnd : decide (48 ≤ (s[j].toNat : Int)) = false ∨ (decide (48 ≤ (s[j].toNat : Int)) = true ∧ decide ((s[j].toNat : Int) ≤ 57) = false) := by simp; omega
              by_cases h45 : (s[j].toNat : Int) = 45
              · have t97 : decide (97 ≤ (s[j].toNat : Int)) = false := by simp; omega
                have t48 : decide (48 ≤ (s[j].toNat : Int)) = false := by simp; omega
                by_cases hj0 : j = 0
                · have hn2 := Hid.mk' (hbad0.out hj0 h45)
                  have t45 : ((s[j].toNat : Int) != 45) = false := by rw [h45]; rfl
                  have tj : (((j : Nat) : Int) == 0) = true := by simp [hj0]
                  clear h45 hj0
                  clear hno hyes hbad0 ha hb hnl hnd
                  go_wp2_with fail
                  go_ret
                  exact ⟨ret_bool hn2.out.symm, rfl⟩
                · have hy2 := Hid.mk' (hyes.out (by simp [signI]; omega) (by omega))
                  have tj : (((j : Nat) : Int) == 0) = false := by simp; omega
                  clear hj0
                  have t45 : ((s[j].toNat : Int) != 45) = false := by rw [h45]; rfl
                  clear h45
                  clear hno hyes hbad0 ha hb hnl hnd
                  go_wp2_with fail
                  go_round
                  case rel => exact ⟨j + 1, by go_num, hlt, hy2⟩
                  case measure => simp [intOf]; omega
              · have t45 : ((s[j].toNat : Int) != 45) = true := by rw [bne_iff_ne]; exact h45
                have hn2 := Hid.mk' (hno.out (by rw [Bool.eq_false_iff]; simp [signI]; omega))
                clear hno hyes hbad0 ha hb
                rcases hnl with hnl | ⟨hnl, hnl2⟩ <;> rcases hnd with hnd | ⟨hnd, hnd2⟩
                all_goals
                  go_wp2_with fail
                  go_ret
                  exact ⟨ret_bool hn2.out.symm, rfl⟩
        · go_wp2_with fail
          go_ret
          refine ⟨ret_bool (nameL_all (by rw [HLS.out]; exact hs1) (by rw [HLS.out]; exact h16) (hall.out.1 (by omega)) fun k hk => ?_).symm, rfl⟩
          exact hall.out.2 k hk (by have := HLS.out; omega)
    · have t2 : decide ((16 : Int) < s.size) = true := by simp; omega
      have e1 : nameL l = false := by rw [nameL, decide_eq_false_iff_not]; omega
      rw [e1]
      clear e1 hls hl
      go_enter Try.func106, Try.ntmps106
      go_wp2_with fail
      go_ret
      exact ⟨rfl, rfl⟩
end Sh
/- msg: 'in'; slices.ContainsFunc of numbers and of texts. -/
set_option linter.unusedVariables false
set_option linter.unusedSimpArgs false
namespace Sh
open Go Go.RowKit Go.Proofs
attribute [local go_sem ↓] Go.wp_at_zero Go.wp_at_succ
set_option maxHeartbeats 1000000
set_option maxRecDepth 100000

abbrev tInt : TypeId := 3
/-- A slice that reads as numbers; as texts. -/
abbrev RdI (c : Addr → Option Value) (v : Value) (l : List Int) : Prop := Rd c 1 v l.length (l.map (Value.int .i64))
abbrev RdS (c : Addr → Option Value) (v : Value) (l : List ByteArray) : Prop := Rd c 1 v l.length (l.map Value.string)
theorem str_nil {s : ByteArray} (h : s.size = 0) : s.toList = [] := by rw [ByteArray.toList_eq]; exact List.eq_nil_of_length_eq_zero (by simpa using h)
theorem str_some {s : ByteArray} (h : 0 < s.size) : s.toList.isEmpty = false := by
  rw [ByteArray.toList_eq]
  cases h2 : s.data.toList with
  | nil => have : s.data.toList.length = s.size := by simp
           rw [h2] at this; simp at this; omega
  | cons a t => rfl
def inOne (hi n : Int) : Bool := decide (0 ≤ n) && decide (n ≤ hi)
def inAll (hi : Int) (l : List Int) : Bool := l.all (inOne hi)
theorem all_take {α : Type} (p : α → Bool) : ∀ (l : List α) (j : Nat) (h : j < l.length), p l[j] = false → l.all p = false
  | x :: l, 0, _, e => by simp only [List.getElem_cons_zero] at e; simp [e]
  | x :: l, j + 1, h, e => by
    have := all_take p l j (by simpa using h) (by simpa using e)
    simp only [List.all_cons, this, Bool.and_false]
theorem all_upto {α : Type} (p : α → Bool) (l : List α) (h : ∀ k (hk : k < l.length), p l[k] = true) : l.all p = true := by
  rw [List.all_eq_true]
  intro x hx
  obtain ⟨k, hk, rfl⟩ := List.getElem_of_mem hx
  exact h k hk
theorem rdI_at {c : Addr → Option Value} {a : Option Addr} {n cap : Nat} {l : List Int} (h : RdI c (.slice a n cap) l) {j : Nat} (hj : j < l.length) : ∃ b o, a = some ⟨b, o, none⟩ ∧ c ⟨b, o + j, none⟩ = some (.int .i64 l[j]) := by
  have e : n = l.length := by
    obtain ⟨a', cap', e1, _⟩ := h
    simp only [Value.slice.injEq] at e1; exact e1.2.1
  subst e
  obtain ⟨b, o, rfl, hc⟩ := h.open (by omega)
  exact ⟨b, o, rfl, hc j _ (by simp [hj])⟩
theorem rdS_at {c : Addr → Option Value} {a : Option Addr} {n cap : Nat} {l : List ByteArray} (h : RdS c (.slice a n cap) l) {j : Nat} (hj : j < l.length) : ∃ b o, a = some ⟨b, o, none⟩ ∧ c ⟨b, o + j, none⟩ = some (.string l[j]) := by
  have e : n = l.length := by
    obtain ⟨a', cap', e1, _⟩ := h
    simp only [Value.slice.injEq] at e1; exact e1.2.1
  subst e
  obtain ⟨b, o, rfl, hc⟩ := h.open (by omega)
  exact ⟨b, o, rfl, hc j _ (by simp [hj])⟩

theorem in1_spec {w : World} {R : Snap} {L : Asrt} {hi n : Int} {b : Nat} {fr : Nat × Nat} (H : Holds w R L) (hb : R.blk b = some (.cells #[.int .i64 hi] tInt fr)) :
    Calls Try.prog 185 #[.int .i64 n, .pointer (some ⟨b, 0, none⟩)] w fun e w' => e = .returned (.bool (!inOne hi n)) ∧ Holds w' R L := by
  obtain ⟨l1, n1, c1⟩ := Holds.frzFacts (H) hb
  by_cases h0 : n < 0
  · have e1 : (!inOne hi n) = true := by simp [inOne]; omega
    rw [e1]
    have t0 : decide (n < 0) = true := by simpa using h0
    go_enter Try.func185, Try.ntmps185
    go_wp2_with fail
    go_ret
    exact ⟨rfl, H⟩
  · have t0 : decide (n < 0) = false := by simpa using h0
    have e1 : (!inOne hi n) = decide (hi < n) := by
      by_cases h : hi < n
      · simp only [inOne]; rw [Bool.eq_iff_iff]; simp; omega
      · simp only [inOne]; rw [Bool.eq_iff_iff]; simp; omega
    rw [e1]
    go_enter Try.func185, Try.ntmps185
    go_wp2_with fail
    go_ret
    exact ⟨rfl, H⟩
theorem idxInt_spec {w : World} {R : Snap} {L : Asrt} {v : Value} {l : List Int} {hi : Int} {b : Nat} {fr : Nat × Nat} (H : Holds w R L) (hr : ∀ w', Holds w' R L → RdI w'.cell? v l) (hl : l.length ≤ 1000000) (hb : R.blk b = some (.cells #[.int .i64 hi] tInt fr)) :
    Calls Try.prog 196 #[v, .func (.func 185) #[] #[.pointer (some ⟨b, 0, none⟩)]] w fun e w' => ∃ k, e = .returned (.int .i64 k) ∧ decide (0 ≤ k) = !inAll hi l ∧ Holds w' R L := by
  obtain ⟨a, c, rfl⟩ := (hr w H).form
  obtain ⟨n, hn⟩ : ∃ n, n = l.length := ⟨_, rfl⟩
  have HR := Hid.mk' hr
  have HN := Hid.mk' hn
  rw [← hn] at hl ⊢
  clear hn hr
  go_enter Try.func196, Try.ntmps196
  go_wp2_with fail
  go_loopw [8] (fun i wx => ∃ j : Nat, i = .int .i64 j ∧ j ≤ n ∧ Hid (∀ k (h : k < l.length), k < j → inOne hi l[k] = true) ∧ Holds wx R L) (fun i _ => n - (intOf i).toNat)
  case atStart => exact ⟨0, rfl, Nat.zero_le _, Hid.mk' (fun k _ h => absurd h (Nat.not_lt_zero k)), H⟩
  case round =>
    clear H
    obtain ⟨j, rfl, hj, hA, H1⟩ := hrel
    by_cases hlt : j < n
    · have hjl : j < l.length := by rw [← HN.out]; exact hlt
      obtain ⟨b1, o1, ha, hc⟩ := rdI_at (HR.out _ H1) hjl
      subst ha
      obtain ⟨x, hx⟩ : ∃ x, x = l[j] := ⟨_, rfl⟩
      rw [← hx] at hc
      have HX := Hid.mk' hx
      clear hx
      go_wp2_with fail
      refine (in1_spec (n := x) H1 hb).mono ?_
      rintro e w2 ⟨rfl, H2⟩
      by_cases hok : inOne hi x = true
      · rw [hok]
        go_wp2_with fail
        go_roundw
        case rel =>
          refine ⟨j + 1, by go_num, hlt, Hid.mk' (fun k h1 h2 => ?_), H2⟩
          rcases Nat.lt_or_ge k j with h3 | h3
          · exact hA.out k h1 h3
          · obtain rfl : k = j := by omega
            rw [← HX.out]; exact hok
        case measure => simp [intOf]; omega
      · rw [Bool.not_eq_true] at hok
        rw [hok]
        go_wp2_with fail
        go_ret
        refine ⟨_, rfl, ?_, H2⟩
        rw [inAll, all_take (inOne hi) l j hjl (by rw [← HX.out]; exact hok)]
        simp
    · go_wp2_with fail
      go_ret
      refine ⟨_, rfl, ?_, H1⟩
      rw [inAll, all_upto (inOne hi) l (fun k hk => hA.out k hk (by have := HN.out; omega))]
      rfl
theorem hasInt_spec {w : World} {R : Snap} {L : Asrt} {v : Value} {l : List Int} {hi : Int} {b : Nat} {fr : Nat × Nat} (H : Holds w R L) (hr : ∀ w', Holds w' R L → RdI w'.cell? v l) (hl : l.length ≤ 1000000) (hb : R.blk b = some (.cells #[.int .i64 hi] tInt fr)) :
    Calls Try.prog 184 #[v, .func (.func 185) #[] #[.pointer (some ⟨b, 0, none⟩)]] w fun e w' => e = .returned (.bool (!inAll hi l)) ∧ Holds w' R L := by
  obtain ⟨a, c, rfl⟩ := (hr w H).form
  go_enter Try.func184, Try.ntmps184
  go_wp2_with fail
  refine (idxInt_spec H hr hl hb).mono ?_
  rintro e w2 ⟨k, rfl, hk, H2⟩
  go_wp2_with fail
  go_ret
  exact ⟨rfl, H2⟩
theorem in_spec {w : World} {R : Snap} {L : Asrt} {v : Value} {l : List Int} {hi : Int} (H : Holds w R L) (hr : ∀ w', Holds w' R L → RdI w'.cell? v l) (hl : l.length ≤ 1000000) :
    Calls Try.prog 119 #[.int .i64 hi, v] w fun e w' => e = .returned (.bool (inAll hi l)) ∧ Holds w' R L := by
  obtain ⟨a, c, rfl⟩ := (hr w H).form
  obtain ⟨R1, le1, H1, hb⟩ := H.allocR (.cells #[.int .i64 hi] tInt (0, 0))
  go_enter Try.func119, Try.ntmps119
  go_wp2_with fail
  refine (hasInt_spec H1 (fun w' h => hr w' (h.weaken le1)) hl hb).mono ?_
  rintro e w2 ⟨rfl, H2⟩
  go_wp2_with fail
  go_ret
  exact ⟨by simp, H2.weaken le1⟩

theorem bad1_spec {w : World} {R : Snap} {L : Asrt} {s : ByteArray} (H : Holds w R L) (hs : s.size ≤ maxLen) :
    Calls Try.prog 121 #[.string s] w fun e w' => e = .returned (.bool (!nameOk s)) ∧ Holds w' R L := by
  have hR := right_spec hs
  go_enter Try.func121, Try.ntmps121
  go_wp2_with fail
  refine (hR _).mono ?_
  rintro e w2 ⟨rfl, rfl⟩
  go_wp2_with fail
  go_ret
  exact ⟨rfl, H⟩
theorem idxStr_spec {w : World} {R : Snap} {L : Asrt} {v : Value} {l : List ByteArray} (H : Holds w R L) (hr : ∀ w', Holds w' R L → RdS w'.cell? v l) (hl : l.length ≤ 1000000) (hs : ∀ s ∈ l, s.size ≤ maxLen) :
    Calls Try.prog 186 #[v, .func (.func 121) #[] #[]] w fun e w' => ∃ k, e = .returned (.int .i64 k) ∧ decide (0 ≤ k) = !l.all nameOk ∧ Holds w' R L := by
  obtain ⟨a, c, rfl⟩ := (hr w H).form
  obtain ⟨n, hn⟩ : ∃ n, n = l.length := ⟨_, rfl⟩
  have HR := Hid.mk' hr
  have HN := Hid.mk' hn
  rw [← hn] at hl ⊢
  clear hn hr
  go_enter Try.func186, Try.ntmps186
  go_wp2_with fail
  go_loopw [8] (fun i wx => ∃ j : Nat, i = .int .i64 j ∧ j ≤ n ∧ Hid (∀ k (h : k < l.length), k < j → nameOk l[k] = true) ∧ Holds wx R L) (fun i _ => n - (intOf i).toNat)
  case atStart => exact ⟨0, rfl, Nat.zero_le _, Hid.mk' (fun k _ h => absurd h (Nat.not_lt_zero k)), H⟩
  case round =>
    clear H
    obtain ⟨j, rfl, hj, hA, H1⟩ := hrel
    by_cases hlt : j < n
    · have hjl : j < l.length := by rw [← HN.out]; exact hlt
      obtain ⟨b1, o1, ha, hc⟩ := rdS_at (HR.out _ H1) hjl
      subst ha
      have hsx := hs l[j] (List.getElem_mem hjl)
      obtain ⟨x, hx⟩ : ∃ x, x = l[j] := ⟨_, rfl⟩
      rw [← hx] at hc hsx
      have HX := Hid.mk' hx
      clear hx
      go_wp2_with fail
      refine (bad1_spec H1 hsx).mono ?_
      rintro e w2 ⟨rfl, H2⟩
      by_cases hok : nameOk x = true
      · rw [hok]
        go_wp2_with fail
        go_roundw
        case rel =>
          refine ⟨j + 1, by go_num, hlt, Hid.mk' (fun k h1 h2 => ?_), H2⟩
          rcases Nat.lt_or_ge k j with h3 | h3
          · exact hA.out k h1 h3
          · obtain rfl : k = j := by omega
            rw [← HX.out]; exact hok
        case measure => simp [intOf]; omega
      · rw [Bool.not_eq_true] at hok
        rw [hok]
        go_wp2_with fail
        go_ret
        refine ⟨_, rfl, ?_, H2⟩
        rw [all_take nameOk l j hjl (by rw [← HX.out]; exact hok)]
        simp
    · go_wp2_with fail
      go_ret
      refine ⟨_, rfl, ?_, H1⟩
      rw [all_upto nameOk l (fun k hk => hA.out k hk (by have := HN.out; omega))]
      rfl
theorem hasStr_spec {w : World} {R : Snap} {L : Asrt} {v : Value} {l : List ByteArray} (H : Holds w R L) (hr : ∀ w', Holds w' R L → RdS w'.cell? v l) (hl : l.length ≤ 1000000) (hs : ∀ s ∈ l, s.size ≤ maxLen) :
    Calls Try.prog 120 #[v, .func (.func 121) #[] #[]] w fun e w' => e = .returned (.bool (!l.all nameOk)) ∧ Holds w' R L := by
  obtain ⟨a, c, rfl⟩ := (hr w H).form
  go_enter Try.func120, Try.ntmps120
  go_wp2_with fail
  refine (idxStr_spec H hr hl hs).mono ?_
  rintro e w2 ⟨k, rfl, hk, H2⟩
  go_wp2_with fail
  go_ret
  exact ⟨rfl, H2⟩
end Sh
/- A message: its cells; whether it may be (msg.Right). -/
set_option linter.unusedVariables false
set_option linter.unusedSimpArgs false
namespace Sh
open Go Go.RowKit Go.Proofs
attribute [local go_sem ↓] Go.wp_at_zero Go.wp_at_succ
set_option maxHeartbeats 1000000
set_option maxRecDepth 100000

structure Ms where
  kind : Int
  from_ : Int
  to_ : Int
  ballot : Int
  name : ByteArray
  attempt : Int
  epoch : Int
  mark : Int
  size : Int
  what : Int
  vw : Value
  vn : Value
  vd : Value
  who : List Int
  names : List ByteArray
  data : List UInt8
instance : Inhabited Ms := ⟨⟨0, 0, 0, 0, ByteArray.empty, 0, 0, 0, 0, 0, .slice none 0 0, .slice none 0 0, .slice none 0 0, [], [], []⟩⟩
abbrev tMsg : TypeId := 63
def Ms.cells (m : Ms) : List Value := [.int .i64 m.kind, .int .i64 m.from_, .int .i64 m.to_, .int .i64 m.ballot, .string m.name, .int .i64 m.attempt, .int .i64 m.epoch, .int .i64 m.mark, .int .i64 m.size, .int .i64 m.what, m.vw, m.vn, m.vd]
theorem Ms.cells_len (m : Ms) : m.cells.length = 13 := rfl
/-- The message's slices read as its lists. -/
def Ms.Rd (c : Addr → Option Value) (m : Ms) : Prop := RdI c m.vw m.who ∧ RdS c m.vn m.names ∧ RdB c m.vd m.data
/-- Its sizes. -/
def Ms.Sz (m : Ms) : Prop := m.name.size ≤ maxLen ∧ (∀ s ∈ m.names, s.size ≤ maxLen) ∧ m.who.length ≤ 1000000 ∧ m.names.length ≤ 1000000 ∧ m.data.length ≤ 1000000
theorem Ms.Rd.le {R R' : Snap} {m : Ms} (h : m.Rd R.cell?) (l : R.le R') : m.Rd R'.cell? := ⟨Sh.Rd.le h.1 l, Sh.Rd.le h.2.1 l, Sh.Rd.le h.2.2 l⟩
theorem Ms.Rd.world {w : World} {R : Snap} {L : Asrt} {m : Ms} (h : m.Rd R.cell?) (H : Holds w R L) : m.Rd w.cell? := ⟨Sh.Rd.world h.1 H, Sh.Rd.world h.2.1 H, Sh.Rd.world h.2.2 H⟩
def msgOk (m : Ms) : Bool :=
  decide (1 ≤ m.kind) && decide (m.kind ≤ 25) && decide (m.from_ ≠ m.to_) && inAll 256 [m.from_, m.to_] && inAll 4294967295 [m.ballot, m.attempt, m.epoch, m.mark] && inAll 4294967295 m.who &&
  inAll 240 [m.size, (m.data.length : Int)] && inAll 255 [m.what, (m.who.length : Int)] && decide (m.names.length ≤ 8) && m.names.all nameOk && (decide (m.name.size = 0) || nameOk m.name)

theorem right25_spec {w : World} {R : Snap} {L : Asrt} (m : Ms) (H : Holds w R L) (hr : ∀ w', Holds w' R L → m.Rd w'.cell?) (hz : m.Sz) :
    Calls Try.prog 53 #[.agg m.cells.toArray] w fun e w' => e = .returned (.bool (msgOk m)) ∧ Holds w' R L := by
  obtain ⟨x, hx⟩ : ∃ x, x = msgOk m := ⟨_, rfl⟩
  rw [← hx]
  have hm := hr w H
  obtain ⟨kind, from_, to_, ballot, name, attempt, epoch, mark, size, what, vw, vn, vd, who, names, data⟩ := m
  obtain ⟨hw, hn, hd⟩ := hm
  obtain ⟨z1, z2, z3, z4, z5⟩ := hz
  simp only at z1 z2 z3 z4 z5 hw hn hd
  obtain ⟨aw, cw, rfl⟩ := hw.form
  obtain ⟨an, cn, rfl⟩ := hn.form
  obtain ⟨ad, cd, rfl⟩ := hd.form
  have HX := Hid.mk' hx
  have HM := Hid.mk' hr
  have hR := right_spec z1
  have hz1 := z1
  unfold maxLen at hz1
  obtain ⟨R1, le1, H1, hb⟩ := H.allocR (.cells #[.int .i64 kind, .int .i64 from_, .int .i64 to_, .int .i64 ballot, .string name, .int .i64 attempt, .int .i64 epoch, .int .i64 mark, .int .i64 size, .int .i64 what, .slice aw who.length cw, .slice an names.length cn, .slice ad data.length cd] tMsg (0, 0))
  clear hw hn hd hx H hr
  obtain ⟨l1, n1, c1⟩ := Holds.frzFacts (H1) hb
  show Calls _ _ #[.agg #[.int .i64 kind, .int .i64 from_, .int .i64 to_, .int .i64 ballot, .string name, .int .i64 attempt, .int .i64 epoch, .int .i64 mark, .int .i64 size, .int .i64 what, .slice aw who.length cw, .slice an names.length cn, .slice ad data.length cd]] _ _
  by_cases k1 : kind < 1
  · have t1 : decide (kind < 1) = true := by simpa using k1
    go_enter Try.func53, Try.ntmps53
    go_wp2_with fail
    go_ret
    exact ⟨ret_bool (by rw [HX.out]; simp [msgOk]; omega), H1.weaken le1⟩
  have t1 : decide (kind < 1) = false := by simpa using k1
  by_cases k2 : 25 < kind
  · have t2 : decide (25 < kind) = true := by simpa using k2
    go_enter Try.func53, Try.ntmps53
    go_wp2_with fail
    go_ret
    exact ⟨ret_bool (by rw [HX.out]; simp [msgOk]; omega), H1.weaken le1⟩
  have t2 : decide (25 < kind) = false := by simpa using k2
  by_cases k3 : from_ = to_
  · have t3 : (from_ == to_) = true := by simpa using k3
    have K3 := Hid.mk' k3
    clear k3
    go_enter Try.func53, Try.ntmps53
    go_wp2_with fail
    go_ret
    exact ⟨ret_bool (by rw [HX.out]; simp [msgOk, K3.out]), H1.weaken le1⟩
  have t3 : (from_ == to_) = false := by simpa using k3
  have K := Hid.mk' (And.intro (show 1 ≤ kind by omega) (And.intro (show kind ≤ 25 by omega) k3))
  have H2 := H1.alloc #[.int .i64 from_, .int .i64 to_] tInt
  simp only [World.size_alloc] at H2
  go_enter Try.func53, Try.ntmps53
  go_wp2_with fail
  generalize hg : w.heap.size = g at *
  clear hg
  refine (in_spec (l := [from_, to_]) H2 (fun w' h => (h.toRow 1 2 2 (Nat.le_refl _) (by decide) rfl).rowRd) (by simp)).mono ?_
  rintro e w3 ⟨rfl, H3⟩
  replace H3 := H3.drop
  clear H1 l1 n1 c1 H2
  obtain ⟨l3, n3, c3⟩ := Holds.frzFacts (H3) hb
  cases b4 : inAll 256 [from_, to_] with
  | false =>
    go_wp2_with fail
    go_ret
    exact ⟨ret_bool (by rw [HX.out]; simp [msgOk, b4]), H3.weaken le1⟩
  | true =>
  have B4 := Hid.mk' b4
  clear b4
  have H4 := H3.alloc #[.int .i64 ballot, .int .i64 attempt, .int .i64 epoch, .int .i64 mark] tInt
  go_wp2_with fail
  refine (in_spec (l := [ballot, attempt, epoch, mark]) H4 (fun w' h => (h.toRow 1 4 4 (Nat.le_refl _) (by decide) rfl).rowRd) (by simp)).mono ?_
  rintro e w5 ⟨rfl, H5⟩
  replace H5 := H5.drop
  clear H4 H3 l3 n3 c3
  obtain ⟨l5, n5, c5⟩ := Holds.frzFacts (H5) hb
  cases b5 : inAll 4294967295 [ballot, attempt, epoch, mark] with
  | false =>
    go_wp2_with fail
    go_ret
    exact ⟨ret_bool (by rw [HX.out]; simp [msgOk, b5]), H5.weaken le1⟩
  | true =>
  have B5 := Hid.mk' b5
  clear b5
  go_wp2_with fail
  refine (in_spec H5 (fun w' h => (HM.out w' (h.weaken le1)).1) z3).mono ?_
  rintro e w6 ⟨rfl, H6⟩
  clear H5 l5 n5 c5
  obtain ⟨l6, n6, c6⟩ := Holds.frzFacts (H6) hb
  cases b6 : inAll 4294967295 who with
  | false =>
    go_wp2_with fail
    go_ret
    exact ⟨ret_bool (by rw [HX.out]; simp [msgOk, b6]), H6.weaken le1⟩
  | true =>
  have B6 := Hid.mk' b6
  clear b6
  have H7 := H6.alloc #[.int .i64 size, .int .i64 (data.length : Int)] tInt
  go_wp2_with fail
  refine (in_spec (l := [size, (data.length : Int)]) H7 (fun w' h => (h.toRow 1 2 2 (Nat.le_refl _) (by decide) rfl).rowRd) (by simp)).mono ?_
  rintro e w8 ⟨rfl, H8⟩
  replace H8 := H8.drop
  clear H7 H6 l6 n6 c6
  obtain ⟨l8, n8, c8⟩ := Holds.frzFacts (H8) hb
  cases b7 : inAll 240 [size, (data.length : Int)] with
  | false =>
    go_wp2_with fail
    go_ret
    exact ⟨ret_bool (by rw [HX.out]; simp [msgOk, b7]), H8.weaken le1⟩
  | true =>
  have B7 := Hid.mk' b7
  clear b7
  have H9 := H8.alloc #[.int .i64 what, .int .i64 (who.length : Int)] tInt
  go_wp2_with fail
  refine (in_spec (l := [what, (who.length : Int)]) H9 (fun w' h => (h.toRow 1 2 2 (Nat.le_refl _) (by decide) rfl).rowRd) (by simp)).mono ?_
  rintro e w10 ⟨rfl, H10⟩
  replace H10 := H10.drop
  clear H9 H8 l8 n8 c8
  obtain ⟨l10, n10, c10⟩ := Holds.frzFacts (H10) hb
  cases b8 : inAll 255 [what, (who.length : Int)] with
  | false =>
    go_wp2_with fail
    go_ret
    exact ⟨ret_bool (by rw [HX.out]; simp [msgOk, b8]), H10.weaken le1⟩
  | true =>
  have B8 := Hid.mk' b8
  clear b8
  by_cases k9 : 8 < names.length
  · have t9 : decide ((8 : Int) < (names.length : Int)) = true := by simp; omega
    go_wp2_with fail
    go_ret
    exact ⟨ret_bool (by rw [HX.out]; have : decide (names.length ≤ 8) = false := by simp; omega
                        simp [msgOk, this]), H10.weaken le1⟩
  have t9 : decide ((8 : Int) < (names.length : Int)) = false := by simp; omega
  have K9 : Hid (decide (names.length ≤ 8) = true) := Hid.mk' (by simp; omega)
  clear k9
  go_wp2_with fail
  refine (hasStr_spec H10 (fun w' h => (HM.out w' (h.weaken le1)).2.1) z4 z2).mono ?_
  rintro e w11 ⟨rfl, H11⟩
  clear H10 l10 n10 c10
  obtain ⟨l11, n11, c11⟩ := Holds.frzFacts (H11) hb
  cases b10 : names.all nameOk with
  | false =>
    go_wp2_with fail
    go_ret
    exact ⟨ret_bool (by rw [HX.out]; simp only [msgOk, b10, Bool.and_false, Bool.false_and]), H11.weaken le1⟩
  | true =>
  have B10 := Hid.mk' b10
  clear b10
  have fin : Hid (x = (decide (name.size = 0) || nameOk name)) := Hid.mk' (by
    rw [HX.out]
    simp only [msgOk, B4.out, B5.out, B6.out, B7.out, B8.out, K9.out, B10.out, Bool.and_true, Bool.true_and]
    have h1 : decide (1 ≤ kind) = true := by simpa using K.out.1
    have h2 : decide (kind ≤ 25) = true := by simpa using K.out.2.1
    have h3 : decide (from_ ≠ to_) = true := by simpa using K.out.2.2
    rw [h1, h2, h3]; rfl)
  by_cases hs0 : name.size = 0
  · have e1 : name.toList.isEmpty = true := by rw [str_nil hs0]; rfl
    go_wp2_with fail
    go_ret
    exact ⟨ret_bool (by rw [fin.out]; simp [hs0]), H11.weaken le1⟩
  · have e1 : name.toList.isEmpty = false := str_some (by omega)
    have S0 : Hid (¬ name.size = 0) := Hid.mk' hs0
    clear hs0
    go_wp2_with fail
    refine (hR _).mono ?_
    rintro e w12 ⟨rfl, rfl⟩
    go_wp2_with fail
    go_ret
    exact ⟨ret_bool (by rw [fin.out]; have h := S0.out; simp [h]), H11.weaken le1⟩
end Sh
