/- queue: its ring, told as a list. -/
import Derived.Test.YtmogagcffebbaaaElts
set_option linter.unusedVariables false
set_option linter.unusedSimpArgs false
namespace Sh
open Go Go.RowKit Go.Proofs
attribute [local go_sem ↓] Go.wp_at_zero Go.wp_at_succ
set_option maxHeartbeats 1000000
set_option maxRecDepth 100000

structure It where
  id : Int
  kind : Int
  name : ByteArray
  v : Value
def It.cells (a : It) : List Value := [.int .i64 a.id, .int .i64 a.kind, .string a.name, a.v]
def zeroIt : It := ⟨0, 0, ByteArray.empty, .slice none 0 0⟩
instance : Inhabited It := ⟨zeroIt⟩
theorem It.cells_len (a : It) : a.cells.length = 4 := rfl
def QRel (X : List It) (first n : Nat) (I : List It) : Prop :=
  I.length = n ∧ n ≤ X.length ∧ (first < X.length ∨ (first = 0 ∧ X = [])) ∧ ∀ i (h : i < I.length), X[(first + i) % X.length]? = some I[i]
theorem mod_two {a m : Nat} (h : a < 2 * m) : a % m = if a < m then a else a - m := by
  split
  · rename_i h1; exact Nat.mod_eq_of_lt h1
  · rename_i h1
    rw [Nat.mod_eq_sub_mod (by omega), Nat.mod_eq_of_lt (by omega)]
theorem q_empty : QRel [] 0 0 [] := ⟨rfl, Nat.le_refl _, .inr ⟨rfl, rfl⟩, fun i h => by simp at h⟩
theorem q_next {X : List It} {first n : Nat} {x : It} {I : List It} (z : It) (h : QRel X first n (x :: I)) : first < X.length ∧ X[first]? = some x ∧ n = I.length + 1 ∧ QRel (X.set first z) ((first + 1) % X.length) I.length I := by
  obtain ⟨h1, h2, h3, h4⟩ := h
  simp only [List.length_cons] at h1
  have hf : first < X.length := by
    rcases h3 with h3 | ⟨_, h3⟩
    · exact h3
    · subst h3; simp at h2; omega
  have h0 := h4 0 (by simp)
  rw [Nat.add_zero, Nat.mod_eq_of_lt hf] at h0
  refine ⟨hf, h0, h1.symm, rfl, by simp; omega, .inl (by rw [List.length_set]; exact Nat.mod_lt _ (by omega)), fun i hi => ?_⟩
  have h5 := h4 (i + 1) (by simpa using hi)
  rw [List.getElem_cons_succ] at h5
  rw [List.length_set, ← h5]
  have e : ((first + 1) % X.length + i) % X.length = (first + (i + 1)) % X.length := by rw [Nat.mod_add_mod]; congr 1; omega
  rw [e, List.getElem?_set_ne]
  have : (first + (i + 1)) % X.length = if first + (i + 1) < X.length then first + (i + 1) else first + (i + 1) - X.length := mod_two (by omega)
  rw [this]; split <;> omega
theorem q_add {X : List It} {first n : Nat} {I : List It} (x : It) (h : QRel X first n I) (hn : n < X.length) : (first + n) % X.length < X.length ∧ QRel (X.set ((first + n) % X.length) x) first (n + 1) (I ++ [x]) := by
  obtain ⟨h1, h2, h3, h4⟩ := h
  have hf : first < X.length := by
    rcases h3 with h3 | ⟨_, h3⟩
    · exact h3
    · subst h3; simp at hn
  have hm : (first + n) % X.length < X.length := Nat.mod_lt _ (by omega)
  refine ⟨hm, by simp [h1], by simp; omega, .inl (by simpa using hf), fun i hi => ?_⟩
  rw [List.length_set]
  simp only [List.length_append, List.length_singleton] at hi
  rcases Nat.lt_or_ge i I.length with h5 | h5
  · rw [List.getElem_append_left h5, ← h4 i h5, List.getElem?_set_ne]
    rw [mod_two (show first + n < 2 * X.length by omega), mod_two (show first + i < 2 * X.length by omega)]
    split <;> split <;> omega
  · obtain rfl : i = n := by omega
    rw [List.getElem?_set_self hm, List.getElem_append_right (by omega)]
    simp
theorem q_grow {X : List It} {first : Nat} {I : List It} (z : It) (k : Nat) (h : QRel X first X.length I) : QRel (X.drop first ++ (X.take first ++ List.replicate (k + 2) z)) 0 X.length I := by
  obtain ⟨h1, h2, h3, h4⟩ := h
  have hl : (X.drop first ++ (X.take first ++ List.replicate (k + 2) z)).length = X.length + k + 2 := by
    simp only [List.length_append, List.length_drop, List.length_take, List.length_replicate]
    rcases h3 with h3 | ⟨h3, h5⟩
    · omega
    · subst h5; subst h3; simp
  refine ⟨h1, by omega, .inl (by omega), fun i hi => ?_⟩
  have hf : first < X.length := by
    rcases h3 with h3 | ⟨_, h3⟩
    · exact h3
    · subst h3; rw [List.length_nil] at h1; omega
  have hi2 : i < (X.drop first ++ (X.take first ++ List.replicate (k + 2) z)).length := by rw [hl]; omega
  rw [Nat.zero_add, Nat.mod_eq_of_lt hi2, ← h4 i hi, mod_two (show first + i < 2 * X.length by omega)]
  split
  · rw [List.getElem?_append_left (by simp; omega), List.getElem?_drop]
  · rw [List.getElem?_append_right (by simp; omega), List.getElem?_append_left (by simp; omega), List.getElem?_take, if_pos (by simp; omega), List.length_drop]
    congr 1
    omega

abbrev tItem : TypeId := 33
abbrev tItems : TypeId := 29
theorem undItems : Try.prog.underlying tItems = some (.slice tItem) := Try.underlying29
theorem infoItem : (Try.prog.info? tItem).map (fun i => (i.zero, i.size, i.bytes)) = some (some (.agg zeroIt.cells.toArray), 4, 56) := by kernel_rfl
theorem sizeItem : (Try.prog.info? tItem).map (·.size) = some 4 := by
  obtain ⟨i, hi, _, hs, _⟩ := info_parts infoItem
  rw [hi, ← hs]; rfl
/-- A queue: its block and the ring's row. -/
def queueA (p : Nat) (X : List It) (first n : Nat) (added : Int) : Asrt := ex fun v => star (blk p #[v, .int .i64 first, .int .i64 n, .int .i64 added] 31) (row tItem 4 v X.length (X.flatMap It.cells))
section
variable {w : World} {R : Snap} {L : Asrt} {p first n : Nat} {X : List It} {added : Int}
theorem queue_open (H : Holds w R (star (queueA p X first n added) L)) : ∃ a c, Holds w R (star (blk p #[.slice a X.length c, .int .i64 first, .int .i64 n, .int .i64 added] 31) (star (row tItem 4 (.slice a X.length c) X.length (X.flatMap It.cells)) L)) := by
  obtain ⟨v, H1⟩ := H.unex
  replace H1 := H1.unstar
  obtain ⟨a, c, rfl⟩ := H1.swap.rowRd.form
  exact ⟨a, c, H1⟩
theorem queue_shut {v : Value} (H : Holds w R (star (blk p #[v, .int .i64 first, .int .i64 n, .int .i64 added] 31) (star (row tItem 4 v X.length (X.flatMap It.cells)) L))) : Holds w R (star (queueA p X first n added) L) :=
  Holds.toex (A := fun v => star (blk p #[v, .int .i64 first, .int .i64 n, .int .i64 added] 31) (row tItem 4 v X.length (X.flatMap It.cells))) v H.tostar
theorem qlen_spec (H : Holds w R (star (queueA p X first n added) L)) :
    Calls Try.prog 28 #[.pointer (some ⟨p, 0, none⟩)] w fun e w' => e = .returned (.int .i64 n) ∧ w = w' := by
  obtain ⟨a, c, H1⟩ := queue_open H
  obtain ⟨l1, n1, c1, z1⟩ := Holds.facts (H1)
  go_enter Try.func28, Try.ntmps28
  go_wp2_with fail
  go_ret
  exact ⟨rfl, rfl⟩
theorem qlen_nil : Calls Try.prog 28 #[.pointer none] w fun e w' => e = .returned (.int .i64 0) ∧ w = w' := by
  go_enter Try.func28, Try.ntmps28
  go_wp2_with fail
  go_ret
  exact ⟨rfl, rfl⟩
end
end Sh
