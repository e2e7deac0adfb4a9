/- Rows of wide elements: cells stored in a row; 'clear'; a row cut short; clones of numbers and of texts. -/
import Derived.Test.YtmogagcffebbaaaMsg
import Derived.Lib.SliceRun
set_option linter.unusedVariables false
set_option linter.unusedSimpArgs false
namespace Sh
open Go Go.RowKit Go.Proofs
attribute [local go_sem ↓] Go.wp_at_zero Go.wp_at_succ
set_option maxHeartbeats 1000000
set_option maxRecDepth 100000

section
variable {w : World} {R : Snap} {L : Asrt} {t : TypeId} {size n cap g : Nat} {xs : List Value}
theorem Holds.rowSetCells : ∀ (vs : List Value) (o : Nat) (w : World) (xs : List Value), Holds w R (star (row t size (.slice (some ⟨g, 0, none⟩) n cap) n xs) L) → o + vs.length ≤ n * size →
    Holds (w.setCells g o vs) R (star (row t size (.slice (some ⟨g, 0, none⟩) n cap) n (xs.take o ++ (vs ++ xs.drop (o + vs.length)))) L)
  | [], o, w, xs, H, _ => by
    rw [List.nil_append, List.length_nil, Nat.add_zero, List.take_append_drop]; exact H
  | v :: vs, o, w, xs, H, h => by
    simp only [List.length_cons] at h
    have hl := H.rowRd.len
    have H1 := Holds.rowSetCells vs (o + 1) _ _ (H.rowSet o v (by omega)) (by omega)
    have e : (xs.set o v).take (o + 1) ++ (vs ++ (xs.set o v).drop (o + 1 + vs.length)) = xs.take o ++ (v :: vs ++ xs.drop (o + (v :: vs).length)) := by
      rw [List.take_succ_eq_append_getElem (by simp; omega), List.take_set_of_le (Nat.le_refl _), List.getElem_set_self, List.drop_set_of_lt (by omega), List.length_cons, show o + 1 + vs.length = o + (vs.length + 1) by omega]
      simp
    rw [e] at H1
    exact H1
theorem Holds.blkCells : ∀ (vs : List Value) (o : Nat) (w : World) (cs : Array Value), Holds w R (star (Sh.blk g cs t) L) → o + vs.length ≤ cs.size → Holds (w.setCells g o vs) R (star (Sh.blk g (cs.toList.take o ++ (vs ++ cs.toList.drop (o + vs.length))).toArray t) L)
  | [], o, w, cs, H, _ => by
    rw [List.nil_append, List.length_nil, Nat.add_zero, List.take_append_drop]; exact H
  | v :: vs, o, w, cs, H, h => by
    simp only [List.length_cons] at h
    have H1 := Holds.blkCells vs (o + 1) _ _ (H.set o v) (by simp; omega)
    have e : (cs.setIfInBounds o v).toList.take (o + 1) ++ (vs ++ (cs.setIfInBounds o v).toList.drop (o + 1 + vs.length)) = cs.toList.take o ++ (v :: vs ++ cs.toList.drop (o + (v :: vs).length)) := by
      rw [Array.toList_setIfInBounds, List.take_succ_eq_append_getElem (by simp; omega), List.take_set_of_le (Nat.le_refl _), List.getElem_set_self, List.drop_set_of_lt (by omega), List.length_cons, show o + 1 + vs.length = o + (vs.length + 1) by omega]
      simp
    rw [e] at H1
    exact H1
/-- All cells of a block are laid anew. -/
theorem Holds.blkFull {cs : Array Value} (H : Holds w R (star (Sh.blk g cs t) L)) (vs : List Value) (h : cs.size = vs.length) : Holds (w.setCells g 0 vs) R (star (Sh.blk g vs.toArray t) L) := by
  have H1 := Holds.blkCells vs 0 _ _ H (by omega)
  rw [List.take_zero, List.nil_append, List.drop_of_length_le (by simp; omega), List.append_nil] at H1
  exact H1
theorem Snap.someBlk {R : Snap} {b o : Nat} {v : Value} (h : R.cell? ⟨b, o, none⟩ = some v) : (R.blk b).isSome = true := by
  unfold Snap.cell? at h
  cases hb : R.blk b with
  | none => rw [hb] at h; cases h
  | some _ => rfl
theorem Holds.ruleFacts (H : Holds w R L) {b : Nat} (h : (R.blk b).isSome = true) : b < w.heap.size ∧ w.heap.size ≠ b ∧ ∀ o, w.cell? ⟨b, o, none⟩ = R.cell? ⟨b, o, none⟩ :=
  ⟨H.lt b h, (by have := H.lt b h; omega), fun o => H.rule b o h⟩
theorem Snap.le.some {R R' : Snap} (l : R.le R') {b : Nat} (h : (R.blk b).isSome = true) : (R'.blk b).isSome = true := by
  obtain ⟨x, hx⟩ := Option.isSome_iff_exists.1 h
  rw [l.blk _ _ hx]; rfl
theorem Holds.at {w' : World} (h : w = w') (H : Holds w R L) : Holds w' R L := h ▸ H
theorem Holds.rowShrink (H : Holds w R (star (row t size (.slice (some ⟨g, 0, none⟩) n cap) n xs) L)) (m : Nat) (h : m ≤ n) : Holds w R (star (row t size (.slice (some ⟨g, 0, none⟩) m cap) m (xs.take (m * size))) L) := by
  refine H.mono fun F => ?_
  rintro ⟨F1, F2, ha, hl, hd, he⟩
  refine ⟨F1, F2, ?_, hl, hd, he⟩
  obtain ⟨l, c⟩ := ha
  rcases c with ⟨h, _⟩ | ⟨g', cap', cur, e1, e2, r1, r2, r3, r4, e⟩
  · cases h
  · simp only [Value.slice.injEq, Option.some.injEq, Addr.mk.injEq, true_and] at e1
    obtain ⟨⟨rfl, _⟩, rfl⟩ := e1
    have hm : m * size ≤ n * size := Nat.mul_le_mul_right _ h
    exact ⟨by rw [List.length_take]; omega, .inr ⟨g, cap, cur, rfl, e2, by omega, r2, r3, by rw [← r4, List.take_take, Nat.min_eq_left hm], e⟩⟩
end

/-- 'clear(s)' of wide elements. -/
theorem run_clear_wide {P : Program} (w : World) (t e ty : TypeId) (z : Value) (zs : List Value) (ht : P.underlying t = some (.slice e)) (hv : ∀ w, (zeroValue e).run P w = .ok z w) (n : Nat) (hz : (Builtin.zeroCells z.cells n).toList = zs) (h1 : ∀ v ∈ zs, v.oneCell' = true) (b o c : Nat) (hn : 0 < n)
    (hc : ∀ j, j < zs.length → (w.cell? ⟨b, o + j, none⟩).isSome = true) (hf : ∀ j, j < zs.length → w.frozen? ⟨b, o + j, none⟩ = false) :
    (Builtin.clear_ #[t] ty #[.slice (some ⟨b, o, none⟩) n c]).run P w = .ok (.tuple #[]) (w.setCells b o zs) := by
  have hst := run_storeCells_cells (P := P) b o zs 0 w (by simpa using hc) (by simpa using hf) h1
  simp only [Nat.add_zero] at hst
  obtain ⟨m, rfl⟩ : ∃ m, n = m + 1 := ⟨n - 1, by omega⟩
  simp [Builtin.clear_, run_underlying ht, hv, hz, hst]

abbrev tInts : TypeId := 60
theorem undInts : Try.prog.underlying tInts = some (.slice tInt) := Try.underlying60
theorem infoInt : (Try.prog.info? tInt).map (fun i => (i.zero, i.size, i.bytes)) = some (some (.int .i64 0), 1, 8) := by kernel_rfl
theorem ints_one (l : List Int) : ∀ x ∈ l.map (Value.int .i64), x.oneCell' = true := by
  intro x hx; obtain ⟨c, _, rfl⟩ := List.mem_map.1 hx; rfl
abbrev tStr : TypeId := 9
abbrev tStrs : TypeId := 61
theorem undStrs : Try.prog.underlying tStrs = some (.slice tStr) := Try.underlying61
theorem infoStr : (Try.prog.info? tStr).map (fun i => (i.zero, i.size, i.bytes)) = some (some (.string ByteArray.empty), 1, 16) := by kernel_rfl
theorem strs_one (l : List ByteArray) : ∀ x ∈ l.map Value.string, x.oneCell' = true := by
  intro x hx; obtain ⟨c, _, rfl⟩ := List.mem_map.1 hx; rfl
@[go_sem] theorem eqnilInts (w : World) (a : Option Addr) (n c : Nat) : (binOp .eql 60 (.slice a n c) (.slice none 0 0)).run Try.prog w = .ok (.bool a.isNone) w := Lib.run_eql_slice_nil w tInts tInt a n c 0 0 undInts
@[go_sem] theorem eqnilStrs (w : World) (a : Option Addr) (n c : Nat) : (binOp .eql 61 (.slice a n c) (.slice none 0 0)).run Try.prog w = .ok (.bool a.isNone) w := Lib.run_eql_slice_nil w tStrs tStr a n c 0 0 undStrs
theorem cloneInts_spec {w : World} {R : Snap} {L : Asrt} {v : Value} {l : List Int} (H : Holds w R L) (hr : ∀ w', Holds w' R L → RdI w'.cell? v l) (hn : l.length ≤ 1000000) :
    Calls Try.prog 179 #[v] w fun e w' => ∃ v', e = .returned v' ∧ Holds w' R (star (row tInt 1 v' l.length (l.map (Value.int .i64))) L) := by
  obtain ⟨a, cap, rfl⟩ := (hr w H).form
  cases a with
  | none =>
    obtain ⟨a', cap', e1, r1, r2, r3, r4, r5⟩ := hr w H
    simp only [Value.slice.injEq, true_and] at e1
    obtain ⟨rfl, rfl⟩ := e1
    obtain rfl := r4 rfl
    obtain rfl : l = [] := List.eq_nil_of_length_eq_zero (by omega)
    clear r1 r2 r3 r4 r5 hr
    go_enter Try.func179, Try.ntmps179
    go_wp2_with fail
    go_ret
    exact ⟨_, rfl, H.nilRow _ 1⟩
  | some ad =>
    go_enter Try.func179, Try.ntmps179
    go_wp2_with (with_reducible refine stop_append ?_)
    have H1 : Holds _ R (star (row tInt 1 _ 0 []) L) := (H.alloc #[] tInt).toRow 1 0 0 (Nat.le_refl _) (Nat.zero_le _) rfl
    refine Hold.go (wpList_append rfl _ _ rfl undInts infoInt rfl (by decide) rfl rfl H1 (hr _ H1.drop) (ints_one _) (by simp only [maxLen]; omega) (by omega) ?_)
    intro v' w' H2
    rw [Nat.zero_add, List.nil_append] at H2
    go_wp2_with fail
    go_ret
    exact ⟨_, rfl, H2⟩
theorem cloneStrs_spec {w : World} {R : Snap} {L : Asrt} {v : Value} {l : List ByteArray} (H : Holds w R L) (hr : ∀ w', Holds w' R L → RdS w'.cell? v l) (hn : l.length ≤ 1000000) :
    Calls Try.prog 180 #[v] w fun e w' => ∃ v', e = .returned v' ∧ Holds w' R (star (row tStr 1 v' l.length (l.map Value.string)) L) := by
  obtain ⟨a, cap, rfl⟩ := (hr w H).form
  cases a with
  | none =>
    obtain ⟨a', cap', e1, r1, r2, r3, r4, r5⟩ := hr w H
    simp only [Value.slice.injEq, true_and] at e1
    obtain ⟨rfl, rfl⟩ := e1
    obtain rfl := r4 rfl
    obtain rfl : l = [] := List.eq_nil_of_length_eq_zero (by omega)
    clear r1 r2 r3 r4 r5 hr
    go_enter Try.func180, Try.ntmps180
    go_wp2_with fail
    go_ret
    exact ⟨_, rfl, H.nilRow _ 1⟩
  | some ad =>
    go_enter Try.func180, Try.ntmps180
    go_wp2_with (with_reducible refine stop_append ?_)
    have H1 : Holds _ R (star (row tStr 1 _ 0 []) L) := (H.alloc #[] tStr).toRow 1 0 0 (Nat.le_refl _) (Nat.zero_le _) rfl
    refine Hold.go (wpList_append rfl _ _ rfl undStrs infoStr rfl (by decide) rfl rfl H1 (hr _ H1.drop) (strs_one _) (by simp only [maxLen]; omega) (by omega) ?_)
    intro v' w' H2
    rw [Nat.zero_add, List.nil_append] at H2
    go_wp2_with fail
    go_ret
    exact ⟨_, rfl, H2⟩
end Sh
