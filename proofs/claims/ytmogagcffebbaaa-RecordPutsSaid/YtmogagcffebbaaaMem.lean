/- More words of the heap: many rows of bytes, copy. -/
import Derived.Test.YtmogagcffebbaaaTab
import Derived.Laws.CopyOwn
import Derived.Laws.Rows
set_option linter.unusedVariables false
set_option linter.unusedSimpArgs false
namespace Sh
open Go Go.RowKit Go.Proofs
attribute [local go_sem ↓] Go.wp_at_zero Go.wp_at_succ
set_option maxHeartbeats 1000000
set_option maxRecDepth 100000

theorem Asrt.same : ∀ {A B : Asrt}, A.on = B.on → A = B
  | ⟨_, _, _⟩, ⟨_, _, _⟩, rfl => rfl
theorem emp_star (A : Asrt) : star emp A = A := by
  apply Asrt.same
  funext h F
  apply propext
  constructor
  · rintro ⟨F1, F2, h1, h2, _, e⟩
    have : F = F2 := funext fun i => propext ⟨fun hi => ((e i).1 hi).elim (fun x => absurd x (h1 i)) id, fun hi => (e i).2 (.inr hi)⟩
    rw [this]; exact h2
  · intro ha
    exact ⟨fun _ => False, F, fun _ h => h, ha, fun _ h => h.elim, fun i => ⟨.inr, fun h => h.elim (fun h => h.elim) id⟩⟩
theorem star_emp (A : Asrt) : star A emp = A := by rw [star_comm, emp_star]
/-- Many rows of bytes that are owned. -/
def bytesAll : List (Value × List UInt8) → Asrt
  | [] => emp
  | q :: l => star (rowB q.1 q.2) (bytesAll l)
theorem bytesAll_append (l k : List (Value × List UInt8)) : bytesAll (l ++ k) = star (bytesAll l) (bytesAll k) := by
  induction l with
  | nil => show bytesAll k = star emp (bytesAll k); exact (emp_star _).symm
  | cons q l ih => show star _ (bytesAll (l ++ k)) = star (star _ (bytesAll l)) (bytesAll k); rw [ih]; ac_rfl
theorem bytesAll_one (v : Value) (l : List UInt8) : bytesAll [(v, l)] = rowB v l := star_emp _
theorem bytesAll_at {l : List (Value × List UInt8)} {i : Nat} (h : i < l.length) : bytesAll l = star (rowB l[i].1 l[i].2) (star (bytesAll (l.take i)) (bytesAll (l.drop (i + 1)))) := by
  have e : l = l.take i ++ l[i] :: l.drop (i + 1) := by rw [← List.drop_eq_getElem_cons h, List.take_append_drop]
  conv => lhs; rw [e]
  rw [bytesAll_append]
  show star (bytesAll (l.take i)) (star (rowB l[i].1 l[i].2) (bytesAll (l.drop (i + 1)))) = _
  ac_rfl
theorem bytesAll_set {l : List (Value × List UInt8)} {i : Nat} {v : Value} {b : List UInt8} (h : i < l.length) : bytesAll (l.set i (v, b)) = star (rowB v b) (star (bytesAll (l.take i)) (bytesAll (l.drop (i + 1)))) := by
  have h2 : i < (l.set i (v, b)).length := by simpa using h
  have e1 : (l.set i (v, b)).take i = l.take i := by rw [List.take_set, List.set_eq_of_length_le (by simp; omega)]
  have e2 : (l.set i (v, b)).drop (i + 1) = l.drop (i + 1) := by rw [List.drop_set, if_pos (by omega)]
  rw [bytesAll_at h2, e1, e2]
  simp

theorem RdB.at_len {c : Addr → Option Value} {a : Option Addr} {l : List UInt8} {n cap : Nat} (h : RdB c (.slice a l.length cap) l) (e : l.length = n) : RdB c (.slice a n cap) l := by subst e; exact h
theorem Holds.at_len {w : World} {R : Snap} {L : Asrt} {a : Option Addr} {l : List UInt8} {n cap : Nat} (h : Holds w R (star (rowB (.slice a l.length cap) l) L)) (e : l.length = n) : Holds w R (star (rowB (.slice a n cap) l) L) := by subst e; exact h
theorem Holds.toRowB {w : World} {R : Snap} {L : Asrt} {v : Value} {l : List UInt8} {n : Nat} (h : Holds w R (star (row tU8 1 v n (u8s l)) L)) (e : l.length = n) : Holds w R (star (rowB v l) L) := by subst e; exact h
theorem same_self {w : World} {u v : Value} {l : List UInt8} (hu : RdB w.cell? u l) (hv : RdB w.cell? v l) (hl : l.length ≤ 1000000) :
    Calls Try.prog 27 #[u, v] w fun e w' => e = .returned (.bool true) ∧ ∃ q, w' = w.drewN q := by
  refine (same_spec hu hv hl hl).mono ?_
  rintro e w' ⟨rfl, h⟩
  exact ⟨by simp, h⟩
/-- Two owned blocks are apart. -/
theorem Holds.apart {w : World} {R : Snap} {L : Asrt} {b b' : Nat} {cs cs' : Array Value} {t t' : TypeId} (H : Holds w R (star (Sh.blk b cs t) (star (Sh.blk b' cs' t') L))) : b ≠ b' ∧ b' ≠ b := by
  obtain ⟨h1, h2, h3, h4, F, ⟨F1, F2, ⟨_, ha⟩, ⟨F3, F4, ⟨_, hb⟩, hl, hd', he'⟩, hd, he⟩, hR⟩ := H
  have h := hd b ((ha b).2 rfl)
  have : b ≠ b' := fun e => h ((he' b).2 (.inl ((hb b).2 e)))
  exact ⟨this, this.symm⟩
/-- Two results, the first a struct in memory. -/
theorem results_cell2 {P : Program} {fn : Func} {p q : Tmp} {ty : TypeId} (h : fn.results = #[.cell p ty, .tmp q]) (tmps : Array Value) (w : World) (g : Nat) (t : TypeId) (cs : Array Value) (fr : Nat × Nat) (d : TypeDesc)
    (hp : tmps.getD p undef = .pointer (some ⟨g, 0, none⟩)) (hg : w.heap[g]? = some (.cells cs t fr))
    (hu : P.underlying ty = some d) (hd : (match d with | .struct _ | .array _ _ => true | _ => false) = true) (hi : (P.info? ty).map (·.size) = some cs.size) :
    (results fn tmps).run P w = .ok (.tuple #[.agg cs, tmps.getD q undef]) w := by
  have hp' : tmps[p]?.getD undef = .pointer (some ⟨g, 0, none⟩) := by simpa using hp
  simp [results, h, hp', asAddr, run_loadVar_row w g t ty cs fr d hg hu hd hi]
theorem results_cell3 {P : Program} {fn : Func} {p q r : Tmp} {ty : TypeId} (h : fn.results = #[.cell p ty, .tmp q, .tmp r]) (tmps : Array Value) (w : World) (g : Nat) (t : TypeId) (cs : Array Value) (fr : Nat × Nat) (d : TypeDesc)
    (hp : tmps.getD p undef = .pointer (some ⟨g, 0, none⟩)) (hg : w.heap[g]? = some (.cells cs t fr))
    (hu : P.underlying ty = some d) (hd : (match d with | .struct _ | .array _ _ => true | _ => false) = true) (hi : (P.info? ty).map (·.size) = some cs.size) :
    (results fn tmps).run P w = .ok (.tuple #[.agg cs, tmps.getD q undef, tmps.getD r undef]) w := by
  have hp' : tmps[p]?.getD undef = .pointer (some ⟨g, 0, none⟩) := by simpa using hp
  simp [results, h, hp', asAddr, run_loadVar_row w g t ty cs fr d hg hu hd hi]
/-- A row's cells are laid anew. -/
theorem Holds.rowAll {w : World} {R : Snap} {L : Asrt} {t : TypeId} {size n cap g : Nat} {xs : List Value} (H : Holds w R (star (row t size (.slice (some ⟨g, 0, none⟩) n cap) n xs) L)) :
    ∃ cur, w.heap[g]? = some (.cells cur t (0, 0)) ∧ cur.size = cap * size ∧ n ≤ cap ∧ cur.toList.take (n * size) = xs ∧
      ∀ cur2 : Array Value, cur2.size = cur.size → Holds (w.setRow g cur2) R (star (row t size (.slice (some ⟨g, 0, none⟩) n cap) n (cur2.toList.take (n * size))) L) := by
  obtain ⟨F, hF, k⟩ := H.upd
  obtain ⟨hl, c⟩ := hF
  rcases c with ⟨h, _⟩ | ⟨g', cap', cur, e1, e2, r1, r2, r3, r4, e⟩
  · cases h
  · simp only [Value.slice.injEq, Option.some.injEq, Addr.mk.injEq, true_and] at e1
    obtain ⟨⟨rfl, _⟩, rfl⟩ := e1
    have e2' : w.heap[g]? = some (.cells cur t (0, 0)) := e2
    refine ⟨cur, e2', r3, r1, r4, fun cur2 h2 => ?_⟩
    have hle : n * size ≤ cap * size := Nat.mul_le_mul_right _ r1
    refine k _ _ F ⟨by simp; omega, .inr ⟨g, cap, cur2, rfl, ?_, r1, r2, by omega, rfl, e⟩⟩ rfl rfl rfl (fun i hi hn => setRow_other w g i cur2 (fun h => hn ((e i).2 h))) (fun i hi => .inl hi)
    exact setRow_heap w g cur cur2 t _ e2'

theorem sizeU8 : (Try.prog.info? tU8).map (·.size) = some 1 := by
  obtain ⟨i, hi, _, hs, _⟩ := info_parts infoU8
  rw [hi, ← hs]; rfl
/-- 'copy(d, s)' of bytes into an owned row. -/
theorem wpList_copyB {w : World} {R : Snap} {L : Asrt} {v u : Value} {l k : List UInt8} {ops : Array Oper} {rest : List Oper} {o : Oper} {a : Act} {Q : Exit → Act → World → Prop} (hgd : o.guard = none) (d s : Operand)
    (ho : o.op = .call { callee := .builtin .copy, args := #[d, s], argTypes := #[tBytes, tBytes] })
    (hd : a.eval d = v) (hs : a.eval s = u) (H : Holds w R (star (rowB v l) L)) (hr : RdB w.cell? u k)
    (hK : ∀ w', Holds w' R (star (rowB v (k.take l.length ++ l.drop k.length)) L) → wpList Try.prog ops Q rest (a.put o.dst (.int .i64 (min k.length l.length : Nat))) w') : wpList Try.prog ops Q (o :: rest) a w := by
  obtain ⟨au, cu, rfl⟩ := hr.form
  by_cases h0 : min k.length l.length = 0
  · obtain ⟨av, cv, rfl⟩ := H.rowRd.form
    refine wpList_copy_nothing (P := Try.prog) hgd d s tBytes tBytes ho tU8 undBytes sizeU8 _ _ _ _ _ _ hd hs h0 ?_
    have e : k.take l.length ++ l.drop k.length = l := by
      by_cases hk : k.length = 0
      · rw [List.eq_nil_of_length_eq_zero hk]; simp
      · have hl : l.length = 0 := by omega
        rw [List.eq_nil_of_length_eq_zero hl]; simp
    have := hK w (by rw [e]; exact H)
    rw [h0] at this
    exact this
  · obtain ⟨g, cap, rfl, _⟩ := H.rowAt (by omega)
    obtain ⟨b, o2, rfl, hc⟩ := RdB.open hr (by omega)
    obtain ⟨cur, hg, hcur, hcap, htk, hset⟩ := H.rowAll
    rw [Nat.mul_one] at hcur htk
    refine wpList_copy_own (P := Try.prog) hgd d s tBytes tBytes ho tU8 undBytes sizeU8 g 0 _ cap ⟨b, o2, none⟩ _ cu hd hs cur tU8 hg (u8s (k.take l.length)) (by rw [u8s_length, List.length_take]; exact Nat.min_comm _ _) ?_ ?_ (u8s_one _) ?_
    · intro j x hx
      rw [add_plain]
      have hj : j < (k.take l.length).length := by
        have := (List.getElem?_eq_some_iff.1 hx).1
        rwa [u8s_length] at this
      rw [u8s_get _ _ hj, Option.some.injEq] at hx
      subst hx
      have hj2 : j < k.length := by rw [List.length_take] at hj; omega
      rw [hc j hj2]
      simp
    · rw [u8s_length, List.length_take]; omega
    · have H2 := hset (cur.toList.take 0 ++ (u8s (k.take l.length) ++ cur.toList.drop (0 + (u8s (k.take l.length)).length))).toArray (by
        simp; omega)
      have e : (cur.toList.take 0 ++ (u8s (k.take l.length) ++ cur.toList.drop (0 + (u8s (k.take l.length)).length))).take (l.length * 1) = u8s (k.take l.length ++ l.drop k.length) := by
        rw [List.take_zero, List.nil_append, u8s_append, Nat.zero_add, Nat.mul_one, List.take_append, u8s_length, List.length_take]
        congr 1
        · rw [List.take_of_length_le (by rw [u8s_length, List.length_take]; omega)]
        · rw [← u8s_drop, ← htk, ← List.drop_take]
          by_cases hk : k.length ≤ l.length
          · rw [show min l.length k.length = k.length from by omega]
          · rw [List.drop_of_length_le (by rw [List.length_take]; omega), List.drop_of_length_le (by rw [List.length_take]; omega)]
      rw [e] at H2
      have e3 : (k.take l.length ++ l.drop k.length).length = l.length := by simp; omega
      have h4 := hK _ (by
        show Holds _ R (star (row tU8 1 _ (k.take l.length ++ l.drop k.length).length _) L)
        rw [e3]; exact H2)
      have e4 : (u8s (k.take l.length)).length = min k.length l.length := by rw [u8s_length, List.length_take]; exact Nat.min_comm _ _
      show wpList _ _ _ _ (a.put o.dst (goInt ((u8s (k.take l.length)).length : Nat))) _
      rw [e4] at h4 ⊢
      exact h4
end Sh
