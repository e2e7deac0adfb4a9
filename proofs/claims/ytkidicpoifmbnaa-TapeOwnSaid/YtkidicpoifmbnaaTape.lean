/- The tape (layer 26): its functions' contracts. -/
import Derived.Test.YtkidicpoifmbnaaTab
set_option linter.unusedVariables false
set_option linter.unusedSimpArgs false
namespace Sh
open Go Go.RowKit Go.Proofs
attribute [local go_sem ↓] Go.wp_at_zero Go.wp_at_succ
set_option maxHeartbeats 1000000
set_option maxRecDepth 100000

structure TU where
  kind : Int
  node : Int
  ballot : Int
  name : ByteArray
  attempt : Int
  epoch : Int
  target : Int
  stripes : Int
def TU.arr (u : TU) : Array Value := #[.int .i64 u.kind, .int .i64 u.node, .int .i64 u.ballot, .string u.name, .int .i64 u.attempt, .int .i64 u.epoch, .int .i64 u.target, .int .i64 u.stripes]
structure TD where
  use : TU
  at_ : Int
  n : Int
def TD.cells (d : TD) : List Value := d.use.arr.toList ++ [.int .i64 d.at_, .int .i64 d.n]
def tds (D : List TD) : List Value := D.flatMap TD.cells
def tapeA (p : Nat) (b : List UInt8) (a : Nat) (D : List TD) : Asrt := ex fun vb => ex fun va =>
  star (blk p #[vb, .int .i64 a, va] 48) (star (rowB vb b) (row 41 10 va D.length (tds D)))

theorem left_spec {w : World} {R : Snap} {L : Asrt} {p a : Nat} {vb va : Value} {b : List UInt8} (H : Holds w R (star (blk p #[vb, .int .i64 a, va] 48) (star (rowB vb b) L))) (ha : a ≤ b.length) (hb : b.length ≤ 1000000) :
    Calls Try.prog 10 #[.pointer (some ⟨p, 0, none⟩)] w fun e w' => e = .returned (.int .i64 ((b.length : Int) - a)) ∧ ∃ q, w' = w.drewN q := by
  obtain ⟨ab, cb, rfl⟩ := H.swap.rowRd.form
  have hp := H.blkCell
  go_enter Try.func10, Try.ntmps10
  go_wp2_with fail
  go_quiet (fail)
  go_wp2_with fail
  go_ret
  exact ⟨rfl, _, rfl⟩
theorem left_nil (w : World) : Calls Try.prog 10 #[.pointer none] w fun e w' => e = .returned (.int .i64 0) ∧ w = w' := by
  go_enter Try.func10, Try.ntmps10
  go_wp2_with fail
  go_ret
  exact ⟨rfl, rfl⟩

theorem draw_yes {w : World} {R : Snap} {L : Asrt} {p a : Nat} {m : Int} {k : Nat} {u : TU} {b : List UInt8} {D : List TD} (H : Holds w R (star (tapeA p b a D) L)) (ha : a ≤ b.length) (hb : b.length ≤ 1000000) (hm : (k : Int) = max m 0) (hk : a + k ≤ b.length) (hD : D.length ≤ 1000) :
    Calls Try.prog 7 #[.pointer (some ⟨p, 0, none⟩), .int .i64 m, .agg u.arr] w fun e w' => ∃ v, e = .returned (.tuple #[v, .bool true]) ∧ Holds w' R (star (rowB v ((b.drop a).take k)) (star (tapeA p b (a + k) (D ++ [⟨u, a, k⟩])) L)) := by
  obtain ⟨vb, H⟩ := H.unex
  obtain ⟨va, H⟩ := H.unex
  replace H := H.unstar.under fun _ => star_on_assoc'
  obtain ⟨ab, cb, rfl⟩ := H.swap.rowRd.form
  have H1 := H.alloc u.arr 34
  go_enter Try.func7, Try.ntmps7
  simp only [TU.arr] at H1 ⊢
  go_wp2_with fail
  refine (left_spec H1.push3 ha hb).mono ?_
  rintro e w1 ⟨rfl, q, hw1⟩
  have H2 := hw1 ▸ H1.drewN q
  clear hw1 H H1
  generalize w.heap.size = bu at H2 ⊢
  generalize hmx : max m 0 = mm at hm ⊢
  clear hmx
  subst hm
  have hlt : (decide ((b.length : Int) - a < k)) = false := by simp; omega
  have cu := H2.blkCell
  have cp := H2.swap.blkCell
  have ltu := H2.blkLt
  have ltp := H2.swap.blkLt
  have neu : w1.heap.size ≠ bu := by omega
  have nep : w1.heap.size ≠ p := by omega
  go_wp2_with fail
  go_region_held3 (fun w' => (∀ o, w'.cell? ⟨bu, o, none⟩ = #[.int .i64 u.kind, .int .i64 u.node, .int .i64 u.ballot, .string u.name, .int .i64 u.attempt, .int .i64 u.epoch, .int .i64 u.target, .int .i64 u.stripes][o]?) ∧ (∀ o, w'.cell? ⟨p, o, none⟩ = #[Value.slice ab b.length cb, .int .i64 a, va][o]?)) ((repeat' (first | assumption | (with_reducible refine And.intro ?_ ?_) | (with_reducible refine keep_drew ?_) | (with_reducible refine keep_drewN ?_) | (with_reducible refine keep_alloc ?_ (by first | assumption | (simp only [World.size_alloc, World.size_drew, World.size_setCell]; omega))) | (with_reducible refine keep_set ?_ (by first | assumption | omega))))) (fail)
  have H3 := ((H2.alloc #[.int .i64 u.kind, .int .i64 u.node, .int .i64 u.ballot, .string u.name, .int .i64 u.attempt, .int .i64 u.epoch, .int .i64 u.target, .int .i64 u.stripes, .int .i64 a, .int .i64 k] 41).drew).drop2
  rename_i hHeld
  clear hHeld cu cp ltu ltp neu nep H2
  generalize (World.drew (World.alloc _ _)) = w2 at H3 ⊢
  generalize w1.heap.size = bd at H3 ⊢
  have cd := H3.blkCell
  have cp := H3.swap.blkCell
  have fp := H3.swap.blkFrozen
  go_wp2_with fail
  go_still_tail 9, (by kernel_rfl)
  change wpList _ _ _ _ _ w2.drew
  go_wp2_with fail
  have H4 : Holds _ R (star (row 41 10 va D.length (tds D)) (star (blk bd _ _) (star (blk p #[.slice ab b.length cb, .int .i64 ((a : Int) + k), va] _) (star (rowB _ b) L)))) := ((H3.swap.set 1 (.int .i64 ((a : Int) + k))).drew).ac (by ac_rfl)
  clear H3 hlt cd cp fp
  generalize (World.drew (World.setCell _ _ _)) = w3 at H4 ⊢
  obtain ⟨a2, ha2⟩ : ∃ a2, a2 = a + k := ⟨_, rfl⟩
  rw [show (a : Int) + k = (a2 : Int) by omega] at H4
  have HA2 := Hid.mk' ha2
  have hle : a ≤ a2 := by omega
  have hle2 : a2 ≤ b.length := by omega
  clear ha2
  have cd := H4.swap.blkCell
  have cp := H4.pick3.blkCell
  have ltd := H4.swap.blkLt
  have ltp := H4.pick3.blkLt
  have ned : w3.heap.size ≠ bd := by omega
  have nep : w3.heap.size ≠ p := by omega
  have H5 := (H4.alloc #[.int .i64 u.kind, .int .i64 u.node, .int .i64 u.ballot, .string u.name, .int .i64 u.attempt, .int .i64 u.epoch, .int .i64 u.target, .int .i64 u.stripes, .int .i64 a, .int .i64 k] 41).drew
  have hr5 : Rd _ 10 _ 1 _ := (H5.toRow 10 1 1 (Nat.le_refl _) (by simp [maxLen]) rfl).rowRd
  go_cut [] (fun wx => ∃ a6 c6, Holds wx R (star (blk p #[.slice ab b.length cb, .int .i64 a2, .slice a6 (D.length + 1) c6] 48) (star (blk bd #[.int .i64 u.kind, .int .i64 u.node, .int .i64 u.ballot, .string u.name, .int .i64 u.attempt, .int .i64 u.epoch, .int .i64 u.target, .int .i64 u.stripes, .int .i64 a, .int .i64 k] 41) (star (row 41 10 (.slice a6 (D.length + 1) c6) (D.length + 1) (tds (D ++ [⟨u, a, k⟩]))) (star (rowB (.slice ab b.length cb) b) L)))))
  case first =>
    go_region_law ((refine step_append rfl _ _ (by rfl) undDrawns infoDrawn rfl (by decide) (by rfl) (by rfl) H5.drop hr5 (by simp [Value.oneCell']) (by simp [maxLen]; omega) (by omega) ?_; intro v6 w6 H6; obtain ⟨a6, c6, rfl⟩ := H6.rowRd.form; have cp6 := H6.pick3.blkCell; have fp6 := H6.pick3.blkFrozen))
    all_goals
      go_wp2_with fail
      go_meet
      case rel =>
        refine ⟨a6, c6, ?_⟩
        rw [show tds (D ++ [⟨u, a, k⟩]) = tds D ++ List.take (1 * 10) [.int .i64 u.kind, .int .i64 u.node, .int .i64 u.ballot, .string u.name, .int .i64 u.attempt, .int .i64 u.epoch, .int .i64 u.target, .int .i64 u.stripes, .int .i64 a, .int .i64 k] from by simp [tds, TD.cells, TU.arr]]
        exact (H6.pick3.set 2 (.slice a6 (D.length + 1) c6)).ac (by ac_rfl)
  clear H4 H5 hr5 ltd ltp ned nep cd cp
  obtain ⟨a6, c6, H7⟩ := hcut
  clear H
  have cp := H7.blkCell
  have cd := H7.swap.blkCell
  have hB : RdB wc.cell? (.slice ab b.length cb) b := H7.pick4.rowRd
  have hcb := hB.bounds
  have hsub := hB.sub a a2 a2 hle hle2 (Nat.le_refl _) (by omega)
  have i1 : (a : Int) ≤ a2 := by omega
  have i2 : (a2 : Int) ≤ cb := by omega
  clear hcb
  go_wp2_with fail
  go_still_tail 15, (by kernel_rfl)
  change wpList _ _ _ _ _ wc.drew
  go_wp2_with fail
  refine (clone_spec (H7.drop2.drew) hsub (by simp; omega)).mono ?_
  rintro e w5 ⟨v5, rfl, H8⟩
  go_wp2_with fail
  go_ret2
  have e1 := HA2.out
  subst e1
  refine ⟨v5, rfl, ?_⟩
  have H9 : Holds w5 R (star (rowB v5 (List.take (a + k - a) (List.drop a b))) (star (star (blk p #[.slice ab b.length cb, .int .i64 ((a + k : Nat) : Int), .slice a6 (D.length + 1) c6] 48) (star (rowB (.slice ab b.length cb) b) (row 41 10 (.slice a6 (D.length + 1) c6) (D.length + 1) (tds (D ++ [⟨u, a, k⟩]))))) L)) := H8.ac (by ac_rfl)
  rw [Nat.add_sub_cancel_left] at H9
  refine H9.under fun F h => ?_
  obtain ⟨F1, F2, h1, h2⟩ := h
  refine ⟨F1, F2, ⟨.slice ab b.length cb, .slice a6 (D.length + 1) c6, ?_⟩, h2⟩
  rw [List.length_append, List.length_singleton]
  exact h1

theorem draw_no {w : World} {R : Snap} {L : Asrt} {p a : Nat} {m : Int} {u : TU} {b : List UInt8} {D : List TD} (H : Holds w R (star (tapeA p b a D) L)) (ha : a ≤ b.length) (hb : b.length ≤ 1000000) (hk : (b.length : Int) - a < max m 0) :
    Calls Try.prog 7 #[.pointer (some ⟨p, 0, none⟩), .int .i64 m, .agg u.arr] w fun e w' => e = .returned (.tuple #[.slice none 0 0, .bool false]) ∧ Holds w' R (star (tapeA p b a D) L) := by
  obtain ⟨vb, H1⟩ := H.unex
  obtain ⟨va, H1⟩ := H1.unex
  replace H1 := H1.unstar.under fun _ => star_on_assoc'
  have H2 := H1.alloc u.arr 34
  have H3 := H.garbage (.cells u.arr 34)
  clear H
  go_enter Try.func7, Try.ntmps7
  simp only [TU.arr] at H2 H3 ⊢
  go_wp2_with fail
  refine (left_spec H2.push3 ha hb).mono ?_
  rintro e w1 ⟨rfl, q, hw1⟩
  have H4 := hw1 ▸ H3.drewN q
  clear hw1 H1 H2 H3
  have hlt : (decide ((b.length : Int) - a < max m 0)) = true := by simp; omega
  go_wp2_with fail
  go_ret2
  exact ⟨rfl, H4⟩
theorem draw_nil {w : World} {R : Snap} {L : Asrt} {m : Int} {u : TU} (H : Holds w R L) :
    Calls Try.prog 7 #[.pointer none, .int .i64 m, .agg u.arr] w fun e w' => e = .returned (.tuple #[.slice none 0 0, .bool false]) ∧ Holds w' R L := by
  have H2 := H.garbage (.cells u.arr 34)
  go_enter Try.func7, Try.ntmps7
  simp only [TU.arr] at H2 ⊢
  go_wp2_with fail
  go_ret2
  exact ⟨rfl, H2⟩

theorem new_spec {w : World} {R : Snap} {L : Asrt} {v : Value} {b : List UInt8} (H : Holds w R L) (hr : RdB w.cell? v b) (hb : b.length ≤ 1000000) :
    Calls Try.prog 6 #[v] w fun e w' => ∃ p, e = .returned (.pointer (some ⟨p, 0, none⟩)) ∧ Holds w' R (star (tapeA p b 0 []) L) := by
  go_enter Try.func6, Try.ntmps6
  go_wp2_with fail
  refine (clone_spec H hr hb).mono ?_
  rintro e w1 ⟨v1, rfl, H1⟩
  obtain ⟨a1, c1, rfl⟩ := H1.rowRd.form
  go_wp2_with fail
  go_ret
  refine ⟨_, rfl, ?_⟩
  have H2 : Holds _ R (star (star (blk w1.heap.size #[.slice a1 b.length c1, .int .i64 0, .slice none 0 0] 48) (star (rowB (.slice a1 b.length c1) b) (row 41 10 (.slice none 0 0) 0 []))) L) := ((H1.alloc #[.slice a1 b.length c1, .int .i64 0, .slice none 0 0] 48).nilRow 41 10).ac (by ac_rfl)
  refine H2.mono fun F h => ?_
  obtain ⟨F1, F2, h1, h2⟩ := h
  exact ⟨F1, F2, ⟨_, _, h1⟩, h2⟩

/-- slices.Clone of what was drawn. -/
theorem cloneD_spec {w : World} {R : Snap} {L : Asrt} {v : Value} {n : Nat} {xs : List Value} (H : Holds w R L) (hr : Rd w.cell? 10 v n xs) (h1 : ∀ x ∈ xs, x.oneCell' = true) (hn : n ≤ 1000000) :
    Calls Try.prog 14 #[v] w fun e w' => ∃ v', e = .returned v' ∧ Holds w' R (star (row 41 10 v' n xs) L) := by
  obtain ⟨a, cap, rfl⟩ := hr.form
  cases a with
  | none =>
    obtain ⟨a', cap', e1, r1, r2, r3, r4, r5⟩ := id hr
    simp only [Value.slice.injEq, true_and] at e1
    obtain ⟨rfl, rfl⟩ := e1
    obtain rfl := r4 rfl
    obtain rfl : n = 0 := by omega
    obtain rfl : xs = [] := List.eq_nil_of_length_eq_zero (by omega)
    clear r1 r2 r3 r4 r5 hr
    go_enter Try.func14, Try.ntmps14
    go_wp2_with fail
    go_ret
    exact ⟨_, rfl, H.nilRow _ 10⟩
  | some ad =>
    go_enter Try.func14, Try.ntmps14
    go_wp2_with (with_reducible refine stop_append ?_)
    have H1 := (H.alloc #[] 41).toRow 10 0 0 (Nat.le_refl _) (Nat.zero_le _) rfl
    have hr1 := hr.below ((Below.refl _ _).alloc (Nat.le_refl _) (.cells #[] 41))
    refine Hold.go (wpList_append rfl _ _ rfl undDrawns infoDrawn rfl (by decide) rfl rfl H1 hr1 h1 (by simp [maxLen]; omega) (by omega) ?_)
    intro v' w' H2
    rw [Nat.zero_add] at H2
    go_wp2_with fail
    go_ret
    exact ⟨_, rfl, H2⟩
theorem tds_one (D : List TD) : ∀ x ∈ tds D, x.oneCell' = true := by
  intro x hx
  obtain ⟨d, _, hd⟩ := List.mem_flatMap.1 hx
  simp [TD.cells, TU.arr] at hd
  rcases hd with rfl | rfl | rfl | rfl | rfl | rfl | rfl | rfl | rfl | rfl <;> rfl
theorem all_spec {w : World} {R : Snap} {L : Asrt} {p a : Nat} {b : List UInt8} {D : List TD} (H : Holds w R (star (tapeA p b a D) L)) (hD : D.length ≤ 1000) :
    Calls Try.prog 11 #[.pointer (some ⟨p, 0, none⟩)] w fun e w' => ∃ v, e = .returned v ∧ Holds w' R (star (row 41 10 v D.length (tds D)) (star (tapeA p b a D) L)) := by
  obtain ⟨vb, H1⟩ := H.unex
  obtain ⟨va, H1⟩ := H1.unex
  replace H1 := H1.unstar.under fun _ => star_on_assoc'
  have cp := H1.blkCell
  have hr := H1.pick3.rowRd
  obtain ⟨aa, ca, rfl⟩ := hr.form
  go_enter Try.func11, Try.ntmps11
  go_wp2_with fail
  refine (cloneD_spec H hr (tds_one D) (by omega)).mono ?_
  rintro e w1 ⟨v1, rfl, H2⟩
  go_wp2_with fail
  go_ret
  exact ⟨_, rfl, H2⟩
theorem all_nil {w : World} : Calls Try.prog 11 #[.pointer none] w fun e w' => e = .returned (.slice none 0 0) ∧ w = w' := by
  go_enter Try.func11, Try.ntmps11
  go_wp2_with fail
  go_ret
  exact ⟨rfl, rfl⟩
theorem copy_nil {w : World} : Calls Try.prog 12 #[.pointer none] w fun e w' => e = .returned (.pointer none) ∧ w = w' := by
  go_enter Try.func12, Try.ntmps12
  go_wp2_with fail
  go_ret
  exact ⟨rfl, rfl⟩
end Sh
