/- The tape's second law: what a tape is made of, what is drawn, and a copy, is its own. -/
import Derived.Test.YtkidicpoifmbnaaTapeLaw
set_option linter.unusedVariables false
set_option linter.unusedSimpArgs false
namespace Sh
open Go Go.RowKit Go.Proofs
attribute [local go_sem ↓] Go.wp_at_zero Go.wp_at_succ
set_option maxHeartbeats 1000000
set_option maxRecDepth 100000

theorem copy_spec {w : World} {R : Snap} {L : Asrt} {p a : Nat} {b : List UInt8} {D : List TD} (H : Holds w R (star (tapeA p b a D) L)) (hb : b.length ≤ 1000000) (hD : D.length ≤ 1000) :
    Calls Try.prog 12 #[.pointer (some ⟨p, 0, none⟩)] w fun e w' => ∃ p2, e = .returned (.pointer (some ⟨p2, 0, none⟩)) ∧ Holds w' R (star (tapeA p2 b a D) (star (tapeA p b a D) L)) := by
  obtain ⟨vb, H1⟩ := H.unex
  obtain ⟨va, H1⟩ := H1.unex
  replace H1 := H1.unstar.under fun _ => star_on_assoc'
  obtain ⟨ab, cb, rfl⟩ := H1.swap.rowRd.form
  obtain ⟨aa, ca, rfl⟩ := H1.pick3.rowRd.form
  have cp := H1.blkCell
  have ltp := H1.blkLt
  go_enter Try.func12, Try.ntmps12
  go_wp2_with fail
  go_region_held3 (fun w' => (∀ o, w'.cell? ⟨p, o, none⟩ = #[.slice ab b.length cb, Value.int .i64 a, .slice aa D.length ca][o]?)) (first | (exact H3.pick3.blkCell) | (exact keep_alloc H3.pick3.blkCell H3.pick3.blkLt) | (exact H2.swap.blkCell) | ((repeat' (first | assumption | (with_reducible refine And.intro ?_ ?_) | (with_reducible refine keep_drew ?_) | (with_reducible refine keep_drewN ?_) | (with_reducible refine keep_alloc ?_ (by first | assumption | (simp only [World.size_alloc, World.size_drew, World.size_setCell]; omega))) | (with_reducible refine keep_set ?_ (by first | assumption | omega))))))
    (first
      | (go_at_call 13; refine (clone_spec H1.drew H1.swap.rowRd hb).mono ?_; rintro e w2 ⟨v2, rfl, H2⟩; obtain ⟨a2, c2, rfl⟩ := H2.rowRd.form)
      | (go_at_call 14; refine (cloneD_spec H2 H2.pick4.rowRd (tds_one D) (by omega)).mono ?_; rintro e w3 ⟨v3, rfl, H3⟩; obtain ⟨a3, c3, rfl⟩ := H3.rowRd.form))
  all_goals
    go_wp2_with fail
    go_ret
    refine ⟨_, rfl, ?_⟩
    have H4 : Holds _ R (star (star (blk w3.heap.size #[.slice a2 b.length c2, .int .i64 a, .slice a3 D.length c3] 48) (star (rowB (.slice a2 b.length c2) b) (row 41 10 (.slice a3 D.length c3) D.length (tds D)))) (star (star (blk p #[.slice ab b.length cb, .int .i64 a, .slice aa D.length ca] 48) (star (rowB (.slice ab b.length cb) b) (row 41 10 (.slice aa D.length ca) D.length (tds D)))) L)) := (H3.alloc #[.slice a2 b.length c2, .int .i64 a, .slice a3 D.length c3] 48).ac (by ac_rfl)
    refine H4.mono fun F h => ?_
    obtain ⟨F1, F2, h1, ⟨F3, F4, h3, h4⟩, h2⟩ := h
    exact ⟨F1, F2, ⟨_, _, h1⟩, ⟨F3, F4, ⟨_, _, h3⟩, h4⟩, h2⟩

theorem draw_any {w : World} {R : Snap} {L : Asrt} {p a : Nat} {m : Int} {u : TU} {b : List UInt8} {D : List TD} (H : Holds w R (star (tapeA p b a D) L)) (ha : a ≤ b.length) (hb : b.length ≤ 1000000) (hD : D.length ≤ 1000) :
    Calls Try.prog 7 #[.pointer (some ⟨p, 0, none⟩), .int .i64 m, .agg u.arr] w fun e w' => ∃ (c : Option Addr) (cap : Nat) (ok : Bool) (l : List UInt8) (a' : Nat) (D' : List TD), e = .returned (.tuple #[.slice c l.length cap, .bool ok]) ∧ a' ≤ b.length ∧ D'.length ≤ D.length + 1 ∧ l.length ≤ b.length ∧ Holds w' R (star (rowB (.slice c l.length cap) l) (star (tapeA p b a' D') L)) := by
  by_cases hk : (b.length : Int) - a < max m 0
  · refine (draw_no H ha hb hk).mono ?_
    rintro e w' ⟨rfl, H1⟩
    exact ⟨none, 0, false, [], a, D, rfl, ha, by omega, by simp, H1.nilRow _ 1⟩
  · refine (draw_yes (k := (max m 0).toNat) H ha hb (by omega) (by omega) hD).mono ?_
    rintro e w' ⟨v, rfl, H1⟩
    obtain ⟨c, cap, rfl⟩ := H1.rowRd.form
    exact ⟨c, cap, true, _, _, _, rfl, by omega, by simp, by simp; omega, H1⟩
/-- A row of bytes that one byte is written to. -/
theorem row_write {w : World} {R : Snap} {L : Asrt} {g n cap : Nat} {l : List UInt8} (H : Holds w R (star (row tU8 1 (.slice (some ⟨g, 0, none⟩) n cap) n (u8s l)) L)) (j : Nat) (z : Int) (hj : j < n) (hz : 0 ≤ z ∧ z ≤ 255) :
    Holds (w.setCell ⟨g, j, none⟩ (.int .u8 z)) R (star (row tU8 1 (.slice (some ⟨g, 0, none⟩) n cap) n (u8s (l.set j (UInt8.ofNat z.toNat)))) L) := by
  have h := H.rowSet j (.int .u8 z) (by omega)
  have e : (UInt8.ofNat z.toNat).toNat = z.toNat := by
    have : z.toNat < 256 := by omega
    simp [Nat.mod_eq_of_lt this]
  have e2 : (Value.int .u8 z) = .int .u8 ((UInt8.ofNat z.toNat).toNat : Int) := by rw [e, Int.toNat_of_nonneg hz.1]
  rw [e2, u8s_set] at h
  rw [e2]; exact h
theorem tapeOwn_walk (W : World) {vb : Value} {b : List UInt8} {n k : Int} (hb : RdB W.cell? vb b) (hn : 0 ≤ n ∧ n ≤ 255) (hk : 0 ≤ k ∧ k ≤ 255) :
    Calls Try.prog 4 #[vb, .int .u8 n, .int .u8 k] W fun e w' => e = .returned (.bool true) ∧ Below W.heap.size W w' := by
  obtain ⟨ab, cb, rfl⟩ := hb.form
  by_cases hg : (300 : Int) < b.length
  · have t1 : (decide ((300 : Int) < b.length)) = true := by simp; omega
    have fin : Calls Try.prog 5 #[] W fun e w' => e = .returned (.bool true) ∧ Below W.heap.size W w' := (alive26 (Holds.start W)).mono fun e w' h => ⟨h.1, h.2.toBelow (Snap.le.refl _)⟩
    go_enter Try.func4, Try.ntmps4
    go_wp2_with fail
    refine fin.mono ?_
    rintro e w' ⟨rfl, h⟩
    go_wp2_with fail
    go_ret
    exact ⟨rfl, h⟩
  · have t1 : (decide ((300 : Int) < b.length)) = false := by simp; omega
    go_enter Try.func4, Try.ntmps4
    go_wp2_with (with_reducible refine stop_append ?_)
    have H1 : Holds _ (Snap.of W) (star (rowB _ []) emp) := ((Holds.start W).alloc #[] tU8).toRow 1 0 0 (Nat.le_refl _) (Nat.zero_le _) rfl
    refine Hold.go (wpList_appendB rfl _ _ rfl rfl rfl H1 (hb.below ((Below.refl _ _).alloc (Nat.le_refl _) _)) (by simp only [List.length_nil]; omega) ?_)
    intro v2 w2 H2
    rw [List.nil_append] at H2
    go_wp2_with fail
    refine (new_spec H2 H2.rowRd (by omega)).mono ?_
    rintro e w3 ⟨p, rfl, H3⟩
    obtain ⟨a2, c2, rfl⟩ := H3.swap.rowRd.form
    go_wp2_with fail
    go_loopw [32] (fun i wr => ∃ (j : Nat) (l : List UInt8), i = .int .i64 j ∧ j ≤ b.length ∧ Holds wr (Snap.of W) (star (row tU8 1 (.slice a2 b.length c2) b.length (u8s l)) (star (tapeA p b 0 []) emp))) (fun i _ => b.length - (intOf i).toNat)
    case atStart => exact ⟨0, b, rfl, Nat.zero_le _, H3.swap⟩
    case round =>
      obtain ⟨j, l, rfl, hj, H4⟩ := hrel
      by_cases hlt : j < b.length
      · obtain ⟨g, cap, e1, hc, hg2, hcl, hfz⟩ := H4.rowAt (by omega)
        simp only [Value.slice.injEq, true_and] at e1
        obtain ⟨rfl, rfl⟩ := e1
        have hl := H4.rowRd.len
        simp only [u8s_length, Nat.mul_one] at hl
        have cj := hcl j _ (u8s_get l j (by omega))
        generalize l[j]'(by omega) = x at cj
        clear hcl
        have hx := u8_lt x
        go_wp2_with fail
        go_roundw
        case rel =>
          exact ⟨j + 1, _, by go_num, hlt, row_write H4 j _ hlt (by omega)⟩
        case measure => simp [intOf]; omega
      · go_wp2_with fail
        refine (draw_any (u := u0) H4.drop (Nat.zero_le _) (by omega) (by simp)).mono ?_
        rintro e w5 ⟨a5, c5, ok5, l5, p5, D5, rfl, hp5, hD5, hl5, H5⟩
        clear H4 H1 H2 H3
        replace H5 : Holds w5 (Snap.of W) (star (row tU8 1 (.slice a5 l5.length c5) l5.length (u8s l5)) (star (tapeA p b p5 D5) emp)) := H5
        have HL5 := Hid.mk' hl5
        generalize hn5 : l5.length = n5 at *
        have HN5 := Hid.mk' hn5
        clear hn5
        have hn9 : n5 ≤ 300 := by have := HL5.out; omega
        go_wp2_with fail
        go_loopw [52] (fun i wr => ∃ (j : Nat) (l : List UInt8), i = .int .i64 j ∧ j ≤ n5 ∧ Holds wr (Snap.of W) (star (row tU8 1 (.slice a5 n5 c5) n5 (u8s l)) (star (tapeA p b p5 D5) emp))) (fun i _ => n5 - (intOf i).toNat)
        case atStart => exact ⟨0, l5, rfl, Nat.zero_le _, H5⟩
        case round =>
          obtain ⟨j2, l, rfl, hj2, H4⟩ := hrel
          by_cases hlt : j2 < n5
          · obtain ⟨g, cap, e1, hc, hg2, hcl, hfz⟩ := H4.rowAt (by omega)
            simp only [Value.slice.injEq, true_and] at e1
            obtain ⟨rfl, rfl⟩ := e1
            have hl := H4.rowRd.len
            simp only [u8s_length, Nat.mul_one] at hl
            have cj := hcl j2 _ (u8s_get l j2 (by omega))
            generalize l[j2]'(by omega) = x at cj
            clear hcl
            have hx := u8_lt x
            go_wp2_with fail
            go_roundw
            case rel => exact ⟨j2 + 1, _, by go_num, hlt, row_write H4 j2 _ hlt (by omega)⟩
            case measure => simp [intOf]; omega
          · have H6 := H4.drop
            clear H4
            go_wp2_with fail
            refine (left_tape H6 hp5 (by omega)).mono ?_
            rintro e w6 ⟨rfl, q6, hw6⟩
            have H7 := hw6 ▸ H6.drewN q6
            clear H6 hw6
            go_wp2_with fail
            refine (copy_spec H7 (by omega) (by simp at hD5; omega)).mono ?_
            rintro e w7 ⟨p2, rfl, H8⟩
            clear H7
            go_wp2_with fail
            refine (draw_any (u := ⟨0, 7, 0, ByteArray.empty, 0, 0, 0, 0⟩) H8 hp5 (by omega) (by simp at hD5; omega)).mono ?_
            rintro e w8 ⟨a8, c8, ok8, l8, p8, D8, rfl, hp8, hD8, hl8, H9⟩
            have H9 := H9.drop.drop
            clear H8
            go_wp2_with fail
            refine (draw_yes (k := b.length - p5) (u := u0) H9 hp5 (by omega) (by omega) (by omega) (by simp at hD5; omega)).mono ?_
            rintro e w9 ⟨v9, rfl, H10⟩
            clear H9
            go_wp2_with fail
            refine (draw_nil (u := u0) H10).mono ?_
            rintro e w10 ⟨rfl, H11⟩
            clear H10
            have e1 : (b.length : Int) - ((b.length : Int) - p5) = p5 := by omega
            have i1 : (0 : Int) ≤ p5 := by omega
            have i2 : (p5 : Int) ≤ b.length := by omega
            have hB : RdB w10.cell? (.slice ab b.length cb) b := Rd.world (R := Snap.of W) hb H11
            have hsub := RdB.sub hB p5 b.length cb hp5 (Nat.le_refl _) hB.bounds.1 (Nat.le_refl _)
            go_wp2_with fail
            refine (same_yes (l := (b.drop p5).take (b.length - p5)) H11.rowRd hsub (by simp; omega)).mono ?_
            rintro e w11 ⟨rfl, q11, hw11⟩
            have H12 := hw11 ▸ H11.drewN q11
            clear H11 hw11 hB hsub
            go_wp2_with (first | (go_at_call 10; refine (left_nil _).mono ?_; rintro e w12 ⟨rfl, rfl⟩) | (go_at_call 11; refine all_nil.mono ?_; rintro e w12 ⟨rfl, rfl⟩) | (go_at_call 12; refine copy_nil.mono ?_; rintro e w12 ⟨rfl, rfl⟩) | (go_at_call 5; refine (alive26 H12).mono ?_; rintro e w12 ⟨rfl, H13⟩))
            go_ret
            exact ⟨rfl, H13.toBelow (Snap.le.refl _)⟩
end Sh
