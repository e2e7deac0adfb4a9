/- The tape's reference (sherdref26): what M.Draw does. -/
import Derived.Test.YtkidicpoifmbnaaTape
set_option linter.unusedVariables false
set_option linter.unusedSimpArgs false
namespace Sh
open Go Go.RowKit Go.Proofs
attribute [local go_sem ↓] Go.wp_at_zero Go.wp_at_succ
set_option maxHeartbeats 1000000
set_option maxRecDepth 100000

theorem left_tape {w : World} {R : Snap} {L : Asrt} {p a : Nat} {b : List UInt8} {D : List TD} (H : Holds w R (star (tapeA p b a D) L)) (ha : a ≤ b.length) (hb : b.length ≤ 1000000) :
    Calls Try.prog 10 #[.pointer (some ⟨p, 0, none⟩)] w fun e w' => e = .returned (.int .i64 ((b.length : Int) - a)) ∧ ∃ q, w' = w.drewN q := by
  obtain ⟨vb, H1⟩ := H.unex
  obtain ⟨va, H1⟩ := H1.unex
  exact left_spec (H1.unstar.under fun _ => star_on_assoc') ha hb
theorem same_yes {w : World} {u v : Value} {l : List UInt8} (hu : RdB w.cell? u l) (hv : RdB w.cell? v l) (hl : l.length ≤ 1000000) :
    Calls Try.prog 9 #[u, v] w fun e w' => e = .returned (.bool true) ∧ ∃ q, w' = w.drewN q := by
  refine (same_spec hu hv hl hl).mono ?_
  rintro e w' ⟨rfl, h⟩
  exact ⟨by simp, h⟩
theorem mdraw_no {w : World} {R : Snap} {L : Asrt} {p a : Nat} {m : Int} {vb : Value} {b : List UInt8} (H : Holds w R (star (blk p #[vb, .int .i64 a] 29) L)) (hr : RdB R.cell? vb b) (ha : a ≤ b.length) (hb : b.length ≤ 1000000) (hk : (b.length : Int) - a < max m 0) :
    Calls Try.prog 8 #[.pointer (some ⟨p, 0, none⟩), .int .i64 m] w fun e w' => e = .returned (.tuple #[.slice none 0 0, .bool false]) ∧ Holds w' R (star (blk p #[vb, .int .i64 a] 29) L) := by
  obtain ⟨ab, cb, rfl⟩ := hr.form
  have cp := H.blkCell
  have hn : (decide (m < 0)) = false := by simp; omega
  have hlt : (decide ((b.length : Int) - a < m)) = true := by simp; omega
  go_enter Try.func8, Try.ntmps8
  go_wp2_with fail
  go_quiet (fail)
  go_wp2_with fail
  go_ret2
  exact ⟨rfl, H.drewN _⟩
theorem mdraw_yes {w : World} {R : Snap} {L : Asrt} {p a : Nat} {m : Int} {k : Nat} {vb : Value} {b : List UInt8} (H : Holds w R (star (blk p #[vb, .int .i64 a] 29) L)) (hr : RdB R.cell? vb b) (ha : a ≤ b.length) (hb : b.length ≤ 1000000) (hm : (k : Int) = max m 0) (hk : a + k ≤ b.length) :
    Calls Try.prog 8 #[.pointer (some ⟨p, 0, none⟩), .int .i64 m] w fun e w' => ∃ v, e = .returned (.tuple #[v, .bool true]) ∧ Holds w' R (star (rowB v ((b.drop a).take k)) (star (blk p #[vb, .int .i64 ((a + k : Nat) : Int)] 29) L)) := by
  obtain ⟨ab, cb, rfl⟩ := hr.form
  have cp := H.blkCell
  have fp := H.blkFrozen
  go_enter Try.func8, Try.ntmps8
  go_upto_if 7 with fail
  go_cut [1] (fun s1 wx => s1 = .int .i64 k ∧ wx = w)
  case first =>
    go_wp2_with fail
    · go_meet
      case rel => exact ⟨by rw [show (k : Int) = 0 by omega], rfl⟩
    · go_meet
      case rel => exact ⟨by rw [show (k : Int) = m by omega], rfl⟩
  obtain ⟨rfl, rfl⟩ := hcut
  have hlt : (decide ((b.length : Int) - a < k)) = false := by simp; omega
  clear hm
  go_wp2_with fail
  go_quiet (fail)
  go_wp2_with fail
  have H2 := (H.drewN nq).set 1 (.int .i64 ((a : Int) + k))
  generalize (World.setCell _ _ _) = w2 at H2 ⊢
  have hr2 := hr.world H2
  obtain ⟨a2, ha2⟩ : ∃ a2, a2 = a + k := ⟨_, rfl⟩
  rw [show (a : Int) + k = (a2 : Int) by omega] at H2
  clear cp fp
  have cp := H2.blkCell
  have ltp := H2.blkLt
  have HA := Hid.mk' ha2
  have e1 : IntKind.i64.wrap ((a2 : Int) - k) = a := by rw [IntWalk.i64_in _ (by omega)]; omega
  have i1 : (a : Int) ≤ a2 := by omega
  have hB := hr2.bounds
  have i2 : (a2 : Int) ≤ cb := by omega
  have i3 : (0 : Int) ≤ a := by omega
  have hsub := RdB.sub hr2 a a2 cb (by omega) (by omega) (by omega) (Nat.le_refl _)
  have hlen : ((b.drop a).take (a2 - a)).length ≤ 1000000 := by simp; omega
  clear ha2 hB
  have H3 : Holds _ R (star (rowB _ []) (star (blk p _ _) L)) := ((H2.alloc #[] tU8).toRow 1 0 0 (Nat.le_refl _) (Nat.zero_le _) rfl)
  have nep : w2.heap.size ≠ p := by omega
  have hr4 : RdB ((w2.alloc (.cells #[] tU8)).drew).cell? _ _ := hsub.below ((Below.refl _ _).alloc (Nat.le_refl _) _).drew
  go_region_held3 (fun w' => (∀ o, w'.cell? ⟨p, o, none⟩ = #[.slice ab b.length cb, Value.int .i64 a2][o]?)) (first | (exact H4.swap.blkCell) | ((repeat' (first | assumption | (with_reducible refine And.intro ?_ ?_) | (with_reducible refine keep_drew ?_) | (with_reducible refine keep_drewN ?_) | (with_reducible refine keep_alloc ?_ (by first | assumption | (simp only [World.size_alloc, World.size_drew, World.size_setCell]; omega))) | (with_reducible refine keep_set ?_ (by first | assumption | omega)))))) ((refine step_appendB rfl _ _ (by rfl) (by rfl) (by rfl) H3.drew hr4 (by simp only [List.length_nil]; omega) ?_; intro v4 w4 H4))
  all_goals
    go_wp2_with fail
    go_ret2
    have e2 := HA.out
    subst e2
    rw [Nat.add_sub_cancel_left, List.nil_append] at H4
    exact ⟨_, rfl, H4⟩
end Sh
