/- Rows of structs: copy, and a store of an element. -/
import Derived.Test.YtmogagcffebbaaaMem
set_option linter.unusedVariables false
set_option linter.unusedSimpArgs false
namespace Sh
open Go Go.RowKit Go.Proofs
attribute [local go_sem ↓] Go.wp_at_zero Go.wp_at_succ
set_option maxHeartbeats 1000000
set_option maxRecDepth 100000

section
variable {P : Program}
theorem run_copy_rowS (w : World) (dT sT ty elem : TypeId) (g o dLen dCap : Nat) (a : Addr) (sLen sCap size : Nat) (cur : Array Value) (t : TypeId) (cs : List Value)
    (hu : P.underlying dT = some (.slice elem)) (hs : (P.info? elem).map (·.size) = some size)
    (hg : w.heap[g]? = some (.cells cur t (0, 0))) (hn : cs.length = Nat.min sLen dLen * size)
    (hsrc : ∀ j v, cs[j]? = some v → w.cell? (a.add j) = some v) (hfit : o + cs.length ≤ cur.size) (h1 : ∀ v ∈ cs, v.oneCell' = true) :
    (Builtin.copy_ #[dT, sT] ty #[.slice (some ⟨g, o, none⟩) dLen dCap, .slice (some a) sLen sCap]).run P w =
      .ok (goInt (Nat.min sLen dLen)) (w.setRow g (cur.toList.take o ++ cs ++ cur.toList.drop (o + cs.length)).toArray) := by
  have hl := run_loadCells_list (P := P) w a cs hsrc
  have hst := run_storeCells_at P g o t cs 0 cur w hg (by simpa using hfit) h1
  cases hq : P.info? elem with
  | none => simp [hq] at hs
  | some i =>
    have hi : i.size = size := by simpa [hq] using hs
    simp [Builtin.copy_, run_underlying hu, Builtin.lenOf, Builtin.firstCells, Go.sizeOf, typeInfo, hq, hi, ← hn, hl, hst]
theorem run_copy_noneS (w : World) (dT sT ty elem : TypeId) (d a : Option Addr) (dLen dCap sLen sCap size : Nat) (hu : P.underlying dT = some (.slice elem)) (hs : (P.info? elem).map (·.size) = some size) (hn : Nat.min sLen dLen = 0) :
    (Builtin.copy_ #[dT, sT] ty #[.slice d dLen dCap, .slice a sLen sCap]).run P w = .ok (goInt 0) w := by
  cases hq : P.info? elem with
  | none => simp [hq] at hs
  | some i =>
    have hl : ∀ (x : Addr), (loadCells x 0).run P w = .ok #[] w := fun x => by simpa using run_loadCells_list (P := P) w x [] (by simp)
    cases d <;> cases a <;> simp [Builtin.copy_, run_underlying hu, Builtin.lenOf, Builtin.firstCells, Go.sizeOf, typeInfo, hq, hn, storeCells, hl]
theorem splice_take {α : Type} {c y : List α} {A B N : Nat} (hy : y.length = B) (h1 : A + B ≤ N) (h2 : N ≤ c.length) : (c.take A ++ (y ++ c.drop (A + B))).take N = (c.take N).take A ++ (y ++ (c.take N).drop (A + B)) := by
  have hl : (c.take A).length = A := by simp; omega
  have e1 : (c.take A).take N = c.take A := List.take_of_length_le (by omega)
  have e2 : y.take (N - A) = y := List.take_of_length_le (by omega)
  have e3 : (c.take N).take A = c.take A := by rw [List.take_take, Nat.min_eq_left (by omega)]
  rw [List.take_append, hl, List.take_append, hy, e1, e2, e3, List.drop_take, show N - A - B = N - (A + B) by omega]
theorem wp_copyS {w : World} {R : Snap} {L : Asrt} {o : Oper} {a : Act} {K : Act → World → Prop} {Q : Exit → Act → World → Prop} (d s : Operand) (dT sT elem : TypeId)
    (ho : o.op = .call { callee := .builtin .copy, args := #[d, s], argTypes := #[dT, sT] }) (hu : P.underlying dT = some (.slice elem)) {size : Nat} (hsz : (P.info? elem).map (·.size) = some size)
    {g n cap off dLen dCap m sCap : Nat} {dp sp : Option Addr} {xs ys : List Value} (H : Holds w R (star (row elem size (.slice (some ⟨g, 0, none⟩) n cap) n xs) L))
    (hd : a.eval d = .slice dp dLen dCap) (hs : a.eval s = .slice sp m sCap) (hoff : off + dLen = n) (hdp : 0 < dLen → dp = some ⟨g, off * size, none⟩) (hpos : 0 < size)
    (hr : Rd w.cell? size (.slice sp m sCap) m ys) (hone : ∀ y ∈ ys, y.oneCell' = true)
    (hK : ∀ w', Holds w' R (star (row elem size (.slice (some ⟨g, 0, none⟩) n cap) n (xs.take (off * size) ++ (ys.take (min m dLen * size) ++ xs.drop ((off + min m dLen) * size)))) L) → K (a.put o.dst (.int .i64 (min m dLen : Nat))) w') : o.wp P a w K Q := by
  have hyl := hr.len
  by_cases h0 : min m dLen = 0
  · have hrun := run_copy_noneS (P := P) w dT sT o.type elem dp sp dLen dCap m sCap size hu hsz h0
    have h1 := hK w (by rw [h0, Nat.zero_mul, List.take_zero, List.nil_append, Nat.add_zero, List.take_append_drop]; exact H)
    rw [h0] at h1
    unfold Oper.wp
    simp [execOp, ho, resolve, invoke, builtin, hd, hs, hrun, Result.andThen]
    exact h1
  · obtain ⟨cur, hg, hcur, hcap, htk, hset⟩ := H.rowAll
    obtain rfl := hdp (by omega)
    have hm0 : 0 < m * size := Nat.mul_pos (by omega) hpos
    obtain ⟨b1, o1, rfl, hc⟩ := hr.open hm0
    have hk1 : min m dLen * size ≤ m * size := Nat.mul_le_mul_right _ (by omega)
    have hcl : (ys.take (min m dLen * size)).length = min m dLen * size := by rw [List.length_take]; omega
    have hfit : (off + min m dLen) * size ≤ cap * size := Nat.mul_le_mul_right _ (by omega)
    rw [Nat.add_mul] at hfit
    have hrun := run_copy_rowS (P := P) w dT sT o.type elem g (off * size) dLen dCap ⟨b1, o1, none⟩ m sCap size cur elem (ys.take (min m dLen * size)) hu hsz hg hcl (fun j v hv => by
      rw [add_plain]
      rw [List.getElem?_take] at hv
      split at hv
      · exact hc j v hv
      · cases hv) (by rw [hcl]; omega) (fun v hv => hone v (List.mem_of_mem_take hv))
    have h2 := hset (cur.toList.take (off * size) ++ ys.take (min m dLen * size) ++ cur.toList.drop (off * size + (ys.take (min m dLen * size)).length)).toArray (by simp; omega)
    have e : ((cur.toList.take (off * size) ++ ys.take (min m dLen * size) ++ cur.toList.drop (off * size + (ys.take (min m dLen * size)).length)).toArray.toList.take (n * size)) = xs.take (off * size) ++ (ys.take (min m dLen * size) ++ xs.drop ((off + min m dLen) * size)) := by
      rw [List.append_assoc, hcl]
      have hn : (off + min m dLen) * size ≤ n * size := Nat.mul_le_mul_right _ (by omega)
      have hnc : n * size ≤ cap * size := Nat.mul_le_mul_right _ hcap
      rw [Nat.add_mul] at hn ⊢
      have h := splice_take (c := cur.toList) (y := ys.take (min m dLen * size)) (A := off * size) (B := min m dLen * size) (N := n * size) hcl hn (by simp; omega)
      rw [htk] at h
      exact h
    rw [e] at h2
    have h3 := hK _ h2
    unfold Oper.wp
    simp only [execOp, ho, resolve, invoke, builtin, Sem.run_bind, Sem.run_pure, Result.andThen_ok, List.map_toArray, List.map_cons, List.map_nil, hd, hs, hrun]
    exact h3
theorem step_copyS {w : World} {R : Snap} {L : Asrt} {ops : Array Oper} {o : Oper} {a : Act} {K : Act → World → Prop} {Q : Exit → Act → World → Prop} {E : Prop} (hgd : o.guard = none) (d s : Operand) (dT sT elem : TypeId)
    (ho : o.op = .call { callee := .builtin .copy, args := #[d, s], argTypes := #[dT, sT] }) (hu : P.underlying dT = some (.slice elem)) {size : Nat} (hsz : (P.info? elem).map (·.size) = some size)
    {g n cap off dLen dCap m sCap : Nat} {dp sp : Option Addr} {xs ys : List Value} (H : Holds w R (star (row elem size (.slice (some ⟨g, 0, none⟩) n cap) n xs) L))
    (hd : a.eval d = .slice dp dLen dCap) (hs : a.eval s = .slice sp m sCap) (hoff : off + dLen = n) (hdp : 0 < dLen → dp = some ⟨g, off * size, none⟩) (hpos : 0 < size)
    (hr : Rd w.cell? size (.slice sp m sCap) m ys) (hone : ∀ y ∈ ys, y.oneCell' = true)
    (hK : ∀ w', Holds w' R (star (row elem size (.slice (some ⟨g, 0, none⟩) n cap) n (xs.take (off * size) ++ (ys.take (min m dLen * size) ++ xs.drop ((off + min m dLen) * size)))) L) → K (a.put o.dst (.int .i64 (min m dLen : Nat))) w') : if Region.wanted o (yielded ops a.tmps) = true then Oper.wp P o a w K Q else E := by
  rw [if_pos (by simp [Region.wanted, hgd])]
  exact wp_copyS d s dT sT elem ho hu hsz H hd hs hoff hdp hpos hr hone hK
end

theorem flat_take {α : Type} (f : α → List Value) (k : Nat) (hk : ∀ x, (f x).length = k) : ∀ (l : List α) (n : Nat), (l.flatMap f).take (n * k) = (l.take n).flatMap f
  | [], n => by simp
  | x :: l, 0 => by simp
  | x :: l, n + 1 => by
    rw [List.flatMap_cons, List.take_append, List.take_of_length_le (by rw [hk, Nat.succ_mul]; omega), hk, show (n + 1) * k - k = n * k by rw [Nat.succ_mul]; omega, flat_take f k hk l n]; rfl
theorem flat_drop {α : Type} (f : α → List Value) (k : Nat) (hk : ∀ x, (f x).length = k) : ∀ (l : List α) (n : Nat), (l.flatMap f).drop (n * k) = (l.drop n).flatMap f
  | [], n => by simp
  | x :: l, 0 => by simp
  | x :: l, n + 1 => by
    rw [List.flatMap_cons, List.drop_append, List.drop_of_length_le (by rw [hk, Nat.succ_mul]; omega), hk, List.nil_append, show (n + 1) * k - k = n * k by rw [Nat.succ_mul]; omega, flat_drop f k hk l n]; rfl
/-- A store of an element of four cells. -/
theorem flat_set4 {α : Type} (f : α → List Value) (hk : ∀ x, (f x).length = 4) : ∀ (l : List α) (j : Nat) (x : α) (c0 c1 c2 c3 : Value), f x = [c0, c1, c2, c3] → j < l.length → ((((l.flatMap f).set (j * 4) c0).set (j * 4 + 1) c1).set (j * 4 + 2) c2).set (j * 4 + 3) c3 = (l.set j x).flatMap f
  | [], j, _, _, _, _, _, _, h => by simp at h
  | y :: l, 0, x, c0, c1, c2, c3, hx, _ => by
    have hy := hk y
    match hfy : f y, hy with
    | [d0, d1, d2, d3], _ =>
      rw [List.flatMap_cons, hfy, List.set_cons_zero, List.flatMap_cons, hx]; rfl
  | y :: l, j + 1, x, c0, c1, c2, c3, hx, h => by
    have hy := hk y
    have ih := flat_set4 f hk l j x c0 c1 c2 c3 hx (by simpa using h)
    match hfy : f y, hy with
    | [d0, d1, d2, d3], _ =>
      rw [List.flatMap_cons, hfy, List.set_cons_succ, List.flatMap_cons, hfy, ← ih, show (j + 1) * 4 = j * 4 + 4 by omega]
      rfl
theorem Holds.rowSet4 {α : Type} {w : World} {R : Snap} {L : Asrt} {t : TypeId} {n cap g : Nat} (f : α → List Value) (hk : ∀ x, (f x).length = 4) {X : List α} (H : Holds w R (star (row t 4 (.slice (some ⟨g, 0, none⟩) n cap) n (X.flatMap f)) L)) {j : Nat} (x : α) {c0 c1 c2 c3 : Value} (hx : f x = [c0, c1, c2, c3]) (hj : j < X.length) (hn : X.length = n) :
    Holds ((((w.setCell ⟨g, j * 4, none⟩ c0).setCell ⟨g, j * 4 + 1, none⟩ c1).setCell ⟨g, j * 4 + 2, none⟩ c2).setCell ⟨g, j * 4 + 3, none⟩ c3) R (star (row t 4 (.slice (some ⟨g, 0, none⟩) n cap) n ((X.set j x).flatMap f)) L) := by
  rw [← flat_set4 f hk X j x c0 c1 c2 c3 hx hj]
  exact ((((H.rowSet (j * 4) c0 (by omega)).rowSet (j * 4 + 1) c1 (by omega)).rowSet (j * 4 + 2) c2 (by omega)).rowSet (j * 4 + 3) c3 (by omega))
theorem rd_elt {α : Type} {c : Addr → Option Value} {size n cap : Nat} {a : Option Addr} {l : List α} {f : α → List Value} (hf : ∀ x, (f x).length = size) (h : Rd c size (.slice a n cap) l.length (l.flatMap f)) (hs : 0 < size) {j : Nat} (hj : j < l.length) :
    ∃ b o, a = some ⟨b, o, none⟩ ∧ ∀ r u, r < size → (f l[j])[r]? = some u → c ⟨b, o + (j * size + r), none⟩ = some u := by
  have e : n = l.length := by
    obtain ⟨a', cap', e1, _⟩ := h
    simp only [Value.slice.injEq] at e1; exact e1.2.1
  subst e
  obtain ⟨b, o, rfl, hc⟩ := h.open (Nat.mul_pos (by omega) hs)
  exact ⟨b, o, rfl, fun r u hr hu => hc _ _ (by rw [flat_get f size hf l j r hj hr]; exact hu)⟩
end Sh
