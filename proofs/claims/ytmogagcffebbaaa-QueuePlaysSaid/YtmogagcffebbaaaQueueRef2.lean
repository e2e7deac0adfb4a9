/- sherdref39: Next, SameOp, Same. -/
import Derived.Test.YtmogagcffebbaaaQueueRef
set_option linter.unusedVariables false
set_option linter.unusedSimpArgs false
namespace Sh
open Go Go.RowKit Go.Proofs
attribute [local go_sem ↓] Go.wp_at_zero Go.wp_at_succ
set_option maxHeartbeats 1000000
set_option maxRecDepth 100000

theorem mnext_none {w : World} {R : Snap} {L : Asrt} {pm : Nat} {a : Option Addr} {c : Nat} {added : Int} (H : Holds w R (star (blk pm #[.slice a 0 c, .int .i64 added] tRM) L)) :
    Calls Try.prog 30 #[.pointer (some ⟨pm, 0, none⟩)] w fun e w' => e = .returned (.tuple #[.agg zeroIt.cells.toArray, .bool false]) ∧ Holds w' R (star (blk pm #[.slice a 0 c, .int .i64 added] tRM) L) := by
  obtain ⟨l1, n1, c1, z1⟩ := Holds.facts (H)
  have H2 := H.alloc #[.int .i64 0, .int .i64 0, .string ⟨#[]⟩, .slice none 0 0] tRItem
  go_enter Try.func30, Try.ntmps30
  go_wp2_with fail
  refine bodyPost_ret (results_cell2 rfl _ _ w.heap.size tRItem _ (0, 0) _ rfl H2.blkAt Try.underlying47 rfl (by kernel_rfl)) rfl ?_
  exact ⟨rfl, H2.drop⟩
theorem mnext_some {w : World} {R : Snap} {L : Asrt} {pm : Nat} {vm : Value} {added : Int} {x : It} {J : List It} (H : Holds w R (star (blk pm #[vm, .int .i64 added] tRM) L)) (hr : Rd R.cell? 4 vm (x :: J).length ((x :: J).flatMap It.cells)) (hx : x.plain) (hn : (x :: J).length ≤ 100000) :
    Calls Try.prog 30 #[.pointer (some ⟨pm, 0, none⟩)] w fun e w' => ∃ v', Rd R.cell? 4 v' J.length (J.flatMap It.cells) ∧ e = .returned (.tuple #[.agg x.cells.toArray, .bool true]) ∧ Holds w' R (star (blk pm #[v', .int .i64 added] tRM) L) := by
  obtain ⟨am, cm, rfl⟩ := hr.form
  have hB := hr.bounds
  obtain ⟨b, o, rfl, hc⟩ := hr.open (by simp only [List.length_cons]; omega)
  have hsub := hr.sub 1 (x :: J).length cm (by simp) (Nat.le_refl _) hB.1 (Nat.le_refl _)
  obtain ⟨xi, xk, xn, xv⟩ := x
  obtain ⟨ax, nx, cx, hxv⟩ := hx
  simp only at hxv
  subst hxv
  have hl : (⟨xi, xk, xn, .slice ax nx cx⟩ :: J : List It).length = J.length + 1 := rfl
  have c0 : w.cell? ⟨b, o, none⟩ = some (.int .i64 xi) := H.cell (hc 0 _ rfl)
  have c1 : w.cell? ⟨b, o + 1, none⟩ = some (.int .i64 xk) := H.cell (hc 1 _ rfl)
  have c2 : w.cell? ⟨b, o + 2, none⟩ = some (.string xn) := H.cell (hc 2 _ rfl)
  have c3 : w.cell? ⟨b, o + 3, none⟩ = some (.slice ax nx cx) := H.cell (hc 3 _ rfl)
  have lb := World.block_lt_of_cell? w _ c0
  have lb1 : b < w.heap.size := lb
  have lb2 : w.heap.size ≠ b := by omega
  rw [hl] at H hsub hn hB
  obtain ⟨k, hk⟩ : ∃ k, k = J.length + 1 := ⟨_, rfl⟩
  rw [← hk] at H hsub hn hB
  have hk0 : ((k : Int) == 0) = false := by simp; omega
  have hk1 : (1 : Int) ≤ (k : Int) := by omega
  have hk2 : (0 : Int) < (k : Int) := by omega
  have HK := Hid.mk' hk
  have HS := Hid.mk' hsub
  clear hk hsub hc hr lb
  obtain ⟨l1, n1, c1, z1⟩ := Holds.facts (H)
  have H2 := H.alloc #[.int .i64 0, .int .i64 0, .string ⟨#[]⟩, .slice none 0 0] tRItem
  go_enter Try.func30, Try.ntmps30
  go_wp2_with fail
  have H12 := (((H.set 0 (.slice (adr (some ⟨b, o, none⟩) cm 1 4) (k - 1) (cm - 1))).alloc #[.int .i64 xi, .int .i64 xk, .string xn, .slice ax nx cx] tRItem).alloc #[.int .i64 xi, .int .i64 xk, .string xn, .slice ax nx cx] tRItem).swap
  rw [show (w.setCell ⟨pm, 0, none⟩ (.slice (adr (some ⟨b, o, none⟩) cm 1 4) (k - 1) (cm - 1))).heap.size = w.heap.size from World.size_setCell ..] at H12
  refine bodyPost_ret (results_cell2 rfl _ _ w.heap.size tRItem _ (0, 0) _ rfl H12.blkAt Try.underlying47 rfl (by kernel_rfl)) rfl ?_
  refine ⟨.slice (adr (some ⟨b, o, none⟩) cm 1 4) (k - 1) (cm - 1), ?_, rfl, H12.drop.drop⟩
  have h := HS.out
  rw [HK.out, Nat.add_sub_cancel, List.flatMap_cons, List.drop_left' (by rfl), List.take_of_length_le (by rw [flat_len It.cells 4 It.cells_len]; omega)] at h
  rw [HK.out, Nat.add_sub_cancel]
  exact h

theorem sameop_spec {w : World} {R : Snap} {L : Asrt} {kind : Int} {name : ByteArray} {u v : Value} {b : List UInt8} (H : Holds w R L) (hu : RdB R.cell? u b) (hv : RdB R.cell? v b) (hb : b.length ≤ 1000000) :
    Calls Try.prog 109 #[.agg #[.int .i64 kind, .string name, u], .agg #[.int .i64 kind, .string name, v]] w fun e w' => e = .returned (.bool true) ∧ Holds w' R L := by
  obtain ⟨au, cu, rfl⟩ := hu.form
  obtain ⟨av, cv, rfl⟩ := hv.form
  have H2 := (H.garbage (.cells #[.int .i64 kind, .string name, .slice au b.length cu] tOp)).garbage (.cells #[.int .i64 kind, .string name, .slice av b.length cv] tOp)
  clear H
  go_enter Try.func109, Try.ntmps109
  go_wp2_with fail
  generalize (World.alloc ..) = w2 at H2 ⊢
  refine (same_self (hu.world H2) (hv.world H2) hb).mono ?_
  rintro e w3 ⟨rfl, q, rfl⟩
  go_wp2_with fail
  go_ret
  exact ⟨rfl, H2.drewN q⟩
theorem same39_spec {w : World} {R : Snap} {L : Asrt} {id kind : Int} {name : ByteArray} {u v : Value} {b : List UInt8} (H : Holds w R L) (hu : RdB R.cell? u b) (hv : RdB R.cell? v b) (hb : b.length ≤ 1000000) :
    Calls Try.prog 31 #[.agg #[.int .i64 id, .int .i64 kind, .string name, u], .agg #[.int .i64 id, .int .i64 kind, .string name, v]] w fun e w' => e = .returned (.bool true) ∧ Holds w' R L := by
  obtain ⟨au, cu, rfl⟩ := hu.form
  obtain ⟨av, cv, rfl⟩ := hv.form
  have H2 := (H.garbage (.cells #[.int .i64 id, .int .i64 kind, .string name, .slice au b.length cu] tRItem)).garbage (.cells #[.int .i64 id, .int .i64 kind, .string name, .slice av b.length cv] tRItem)
  clear H
  go_enter Try.func31, Try.ntmps31
  go_wp2_with fail
  generalize (World.alloc ..) = w2 at H2 ⊢
  refine (sameop_spec H2 hu hv hb).mono ?_
  rintro e w3 ⟨rfl, H3⟩
  go_wp2_with fail
  go_ret
  exact ⟨rfl, H3⟩
end Sh
