/- (*queue.Queue).grow. -/
import Derived.Test.YtmogagcffebbaaaQueue
set_option linter.unusedVariables false
set_option linter.unusedSimpArgs false
namespace Sh
open Go Go.RowKit Go.Proofs
attribute [local go_sem ↓] Go.wp_at_zero Go.wp_at_succ
set_option maxHeartbeats 1000000
set_option maxRecDepth 100000

theorem made_items (n : Nat) : (madeCells (Value.agg zeroIt.cells.toArray).cells (n * 4)).toList = (List.replicate n zeroIt).flatMap It.cells := by
  apply List.ext_getElem?
  intro i
  simp only [madeCells, Value.cells]
  rw [Array.toList_map, List.getElem?_map, Array.toList_range]
  by_cases hi : i < n * 4
  · rw [List.getElem?_range hi]
    have hq : i / 4 < (List.replicate n zeroIt).length := by simp; omega
    have e := flat_get It.cells 4 It.cells_len (List.replicate n zeroIt) (i / 4) (i % 4) hq (by omega)
    rw [show i / 4 * 4 + i % 4 = i by omega] at e
    rw [e, List.getElem_replicate]
    have h4 : i % 4 < 4 := by omega
    rcases (by omega : i % 4 = 0 ∨ i % 4 = 1 ∨ i % 4 = 2 ∨ i % 4 = 3) with h | h | h | h <;> (simp only [Option.map_some, zeroIt, It.cells, List.size_toArray, List.length_cons, List.length_nil, h]; rfl)
  · rw [List.getElem?_eq_none (by simp; omega), List.getElem?_eq_none (by rw [flat_len It.cells 4 It.cells_len]; simp; omega)]
    rfl
theorem wpList_makeItems {w : World} {R : Snap} {L : Asrt} {n : Nat} {ops : Array Oper} {rest : List Oper} {o : Oper} {a : Act} {Q : Exit → Act → World → Prop} (hgd : o.guard = none) (l c : Operand)
    (ho : o.op = .makeSlice tItems l c) (hl : a.eval l = .int .i64 n) (hc : a.eval c = .int .i64 n) (H : Holds w R L) (hn : n ≤ 100000000)
    (hK : ∀ v w', Holds w' R (star (row tItem 4 v n ((List.replicate n zeroIt).flatMap It.cells)) L) → wpList Try.prog ops Q rest (a.put o.dst v) w') : wpList Try.prog ops Q (o :: rest) a w := by
  obtain ⟨i, hi, hz, hs, hb⟩ := info_parts infoItem
  refine wpList_make_full (P := Try.prog) w hgd l c tItems ho w.heap.size tItem i _ 4 undItems hi hz hs .i64 .i64 n n n hl hc rfl rfl (by rw [hb]; omega) (by simp only [maxLen]; omega) (Nat.le_refl _) ?_
  intro w' h1 h2
  refine hK _ w' ?_
  have h3 := H.ofGrown h1 h2 (Nat.le_refl _)
  rw [made_items] at h3
  exact h3
theorem its_one (X : List It) (h : ∀ x ∈ X, x.v.oneCell' = true) : ∀ y ∈ X.flatMap It.cells, y.oneCell' = true := by
  intro y hy
  obtain ⟨x, hx, hy⟩ := List.mem_flatMap.1 hy
  simp only [It.cells, List.mem_cons, List.not_mem_nil, or_false] at hy
  rcases hy with rfl | rfl | rfl | rfl
  · rfl
  · rfl
  · rfl
  · exact h x hx
theorem grow_one {X : List It} {first m : Nat} (hm : m = X.length) (hf : first ≤ m) :
    (((List.replicate (2 * m + 2) zeroIt).flatMap It.cells).take (0 * 4) ++ (((X.drop first).flatMap It.cells).take (min (m - first) (2 * m + 2) * 4) ++ ((List.replicate (2 * m + 2) zeroIt).flatMap It.cells).drop ((0 + min (m - first) (2 * m + 2)) * 4))) = (X.drop first ++ List.replicate (m + 2 + first) zeroIt).flatMap It.cells := by
  rw [Nat.zero_mul, List.take_zero, List.nil_append, flat_take It.cells 4 It.cells_len, flat_drop It.cells 4 It.cells_len, List.flatMap_append, List.take_of_length_le (by rw [List.length_drop]; omega), List.drop_replicate, show 2 * m + 2 - (0 + min (m - first) (2 * m + 2)) = m + 2 + first by omega]
theorem grow_two {X : List It} {first m : Nat} (hm : m = X.length) (hf : first ≤ m) :
    ((X.drop first ++ List.replicate (m + 2 + first) zeroIt).flatMap It.cells).take ((m - first) * 4) ++ (((X.take first).flatMap It.cells).take (min first (2 * m + 2 - (m - first)) * 4) ++ ((X.drop first ++ List.replicate (m + 2 + first) zeroIt).flatMap It.cells).drop (((m - first) + min first (2 * m + 2 - (m - first))) * 4)) = (X.drop first ++ (X.take first ++ List.replicate (m + 2) zeroIt)).flatMap It.cells := by
  have e : min first (2 * m + 2 - (m - first)) = first := by omega
  have hl : (X.drop first).length = m - first := by rw [List.length_drop, ← hm]
  rw [e, flat_take It.cells 4 It.cells_len, flat_take It.cells 4 It.cells_len, flat_drop It.cells 4 It.cells_len, ← List.flatMap_append, ← List.flatMap_append]
  congr 1
  have e1 : (X.drop first ++ List.replicate (m + 2 + first) zeroIt).take (m - first) = X.drop first := List.take_left' hl
  have e2 : (X.take first).take first = X.take first := by rw [List.take_take, Nat.min_self]
  have e3 : (X.drop first).drop (m - first + first) = [] := List.drop_of_length_le (by omega)
  rw [e1, e2, List.drop_append, e3, List.nil_append, hl, List.drop_replicate, show m + 2 + first - (m - first + first - (m - first)) = m + 2 by omega]
theorem grow_spec {w : World} {R : Snap} {L : Asrt} {p first n : Nat} {X : List It} {added : Int} (H : Holds w R (star (queueA p X first n added) L)) (hX : X.length ≤ 1000) (hv : ∀ x ∈ X, x.v.oneCell' = true) (hf : first < X.length ∨ (first = 0 ∧ X = [])) :
    Calls Try.prog 107 #[.pointer (some ⟨p, 0, none⟩)] w fun e w' => e = .returned (.tuple #[]) ∧ Holds w' R (star (queueA p (X.drop first ++ (X.take first ++ List.replicate (X.length + 2) zeroIt)) 0 n added) L) := by
  obtain ⟨a, c, H1⟩ := queue_open H
  clear H
  obtain ⟨m, hm⟩ : ∃ m, m = X.length := ⟨_, rfl⟩
  rw [← hm] at H1
  have HM := Hid.mk' hm
  have hm9 : m ≤ 1000 := by omega
  have hB := H1.swap.rowRd.bounds
  have hfm : first ≤ m := by
    rcases hf with hf | ⟨hf, _⟩ <;> omega
  have hlt2 : first < 2 * m + 2 := by omega
  have O1 := Hid.mk' (its_one (X.drop first) fun x hx => hv x (List.mem_of_mem_drop hx))
  have O2 := Hid.mk' (its_one (X.take first) fun x hx => hv x (List.mem_of_mem_take hx))
  have G1 := Hid.mk' (grow_one hm hfm)
  have G2 := Hid.mk' (grow_two hm hfm)
  clear hm hX hf hv
  obtain ⟨l1, n1, c1, z1⟩ := Holds.facts (H1)
  go_enter Try.func107, Try.ntmps107
  go_wp2_with (with_reducible refine stop_make ?_)
  refine Hold.go (wpList_makeItems (n := 2 * m + 2) rfl _ _ rfl rfl rfl H1 (by omega) ?_)
  intro v2 w2 H2
  clear l1 n1 c1 z1
  obtain ⟨g2, d2, rfl, hd2, hg2, _, _⟩ := H2.rowAt (by omega)
  obtain ⟨l2, n2, c2, z2⟩ := Holds.facts (H2.swap)
  have j1 : (0 : Int) ≤ (first : Int) := by omega
  have j2 : (first : Int) ≤ (m : Int) := by omega
  have j3 : (m : Int) ≤ (c : Int) := by omega
  have hs1 := H2.pick3.rowRd.sub first m c hfm (Nat.le_refl _) (by omega) (Nat.le_refl _)
  rw [flat_drop It.cells 4 It.cells_len, flat_take It.cells 4 It.cells_len, List.take_of_length_le (by rw [List.length_drop]; have := HM.out; omega)] at hs1
  go_wp2_with fail
  go_region_law ((refine step_copyS rfl _ _ _ _ _ (by rfl) undItems sizeItem (off := 0) H2.drew (by rfl) (by rfl) (Nat.zero_add _) (fun _ => rfl) (by decide) hs1 O1.out ?_; intro w4 H4; rw [G1.out] at H4))
  all_goals
    clear H2 l2 n2 c2 z2 hs1
    obtain ⟨l4, n4, c4, z4⟩ := Holds.facts (H4.swap)
    have e4 : min (m - first) (2 * m + 2) = m - first := by omega
    obtain ⟨k, hk⟩ : ∃ k, k = m - first := ⟨_, rfl⟩
    rw [e4, ← hk]
    rw [← hk] at G2
    have j4 : (0 : Int) ≤ (k : Int) := by omega
    have j5 : (k : Int) ≤ 2 * (m : Int) + 2 := by omega
    have jd : ¬ d2 = k := by omega
    have j6 : (first : Int) ≤ (c : Int) := by omega
    have hp1 := H4.pick3.rowRd.pre first hfm
    rw [flat_take It.cells 4 It.cells_len] at hp1
    have hkm : k ≤ m := by omega
    clear e4 hk
    go_wp2_with fail
    go_region_law ((refine step_copyS rfl _ _ _ _ _ (by rfl) undItems sizeItem (off := k) H4.drew (by rfl) (by rfl) (by omega) (fun _ => by rw [adr, if_neg jd]; simp [add_plain]) (by decide) hp1 O2.out ?_; intro w6 H6; rw [G2.out] at H6))
    all_goals
      clear H4 l4 n4 c4 z4 hp1
      obtain ⟨l6, n6, c6, z6⟩ := Holds.facts (H6.swap)
      go_wp2_with fail
      go_end0
      refine ⟨rfl, queue_shut (v := .slice (some ⟨g2, 0, none⟩) (2 * m + 2) d2) ?_⟩
      have el : (X.drop first ++ (X.take first ++ List.replicate (X.length + 2) zeroIt)).length = 2 * m + 2 := by have := HM.out; simp; omega
      rw [el]
      have h7 := (H6.swap.set 0 (.slice (some ⟨g2, 0, none⟩) (2 * m + 2) d2)).set 1 (.int .i64 0)
      rw [HM.out] at h7 ⊢
      exact h7.pick3.drop
end Sh
