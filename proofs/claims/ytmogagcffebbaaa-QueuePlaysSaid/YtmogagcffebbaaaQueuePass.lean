/- (*queue.Queue).Pass, Clear. -/
import Derived.Test.YtmogagcffebbaaaQueueAdd
set_option linter.unusedVariables false
set_option linter.unusedSimpArgs false
namespace Sh
open Go Go.RowKit Go.Proofs
attribute [local go_sem ↓] Go.wp_at_zero Go.wp_at_succ
set_option maxHeartbeats 1000000
set_option maxRecDepth 100000

@[go_sem] theorem It.lit2 (a b : Int) (c : ByteArray) (d : Value) : (It.cells ⟨a, b, c, d⟩).toArray = #[.int .i64 a, .int .i64 b, .string c, d] := rfl
@[go_sem] theorem It.lit3 (a b : Int) (c : ByteArray) (d : Value) : It.cells ⟨a, b, c, d⟩ = [.int .i64 a, .int .i64 b, .string c, d] := rfl
@[go_sem] theorem It.lit4 : zeroIt.cells.toArray = #[.int .i64 0, .int .i64 0, .string ⟨#[]⟩, .slice none 0 0] := rfl
@[go_sem] theorem It.lit5 : zeroIt.cells = [.int .i64 0, .int .i64 0, .string ⟨#[]⟩, .slice none 0 0] := rfl

theorem qpass_spec {w : World} {R : Snap} {L : Asrt} {p first n : Nat} {X : List It} {added : Int} {kind : Int} {name : ByteArray} {v : Value} {b : List UInt8} (H : Holds w R (star (queueA p X first n added) L)) (hr : RdB R.cell? v b) (hb : b.length ≤ 1000000) (ha : 0 ≤ added ∧ added ≤ 1000000) :
    Calls Try.prog 32 #[.pointer (some ⟨p, 0, none⟩), .agg #[.int .i64 kind, .string name, v]] w fun e w' => ∃ (R' : Snap) (v' : Value), R.le R' ∧ RdB R'.cell? v' b ∧ e = .returned (.agg (⟨added, kind, name, v'⟩ : It).cells.toArray) ∧ Holds w' R' (star (queueA p X first n (added + 1)) L) := by
  obtain ⟨av, cv, rfl⟩ := hr.form
  obtain ⟨a, c, H1⟩ := queue_open H
  clear H
  obtain ⟨ha0, ha1⟩ := ha
  have H2 := (H1.alloc #[.int .i64 kind, .string name, .slice av b.length cv] tOp).alloc #[.int .i64 0, .int .i64 0, .string ⟨#[]⟩, .slice none 0 0] tItem
  simp only [World.size_alloc] at H2
  obtain ⟨l1, n1, c1, z1⟩ := Holds.facts (H1)
  go_enter Try.func32, Try.ntmps32
  go_wp2_with fail
  generalize (World.alloc ..) = w2 at H2 ⊢
  generalize w.heap.size + 1 = g0 at H2 ⊢
  generalize w.heap.size = go at H2 ⊢
  clear l1 n1 c1 z1 H1
  refine (clone_spec H2 (Rd.world hr H2) hb).mono ?_
  rintro e w6 ⟨v6, rfl, H6⟩
  obtain ⟨R7, le7, H7, hr7⟩ := H6.freezeRow
  obtain ⟨a6, c6, rfl⟩ := hr7.form
  clear H2 H6
  obtain ⟨l7, n7, c7, z7⟩ := Holds.facts (H7.swap)
  obtain ⟨l8, n8, c8, z8⟩ := Holds.facts (H7.pick3)
  obtain ⟨s1, s2⟩ := Holds.apart H7.drop
  go_wp2_with fail
  have H8 := (H7.swap.set 2 (.slice a6 b.length c6)).pick3.set 3 (.int .i64 (added + 1))
  clear l7 n7 c7 z7 l8 n8 c8 z8 s1 s2 H7
  generalize (World.setCell ..) = w8 at H8 ⊢
  obtain ⟨l8, n8, c8, z8⟩ := Holds.facts (H8)
  obtain ⟨l9, n9, c9, z9⟩ := Holds.facts (H8.swap)
  obtain ⟨l10, n10, c10, z10⟩ := Holds.facts (H8.pick3)
  have e1 : IntKind.i64.wrap (added + 1 - 1) = added := by rw [show added + 1 - 1 = added by omega]; exact IntWalk.i64_in _ (by omega)
  go_still_tail 7, (by kernel_rfl)
  change wpList _ _ _ _ _ w8.drew
  go_wp2_with fail
  have H12 := ((((H8.drew.pick3.set 0 (.int .i64 added)).set 1 (.int .i64 kind)).set 2 (.string name)).set 3 (.slice a6 b.length c6))
  refine bodyPost_ret (results_cell_row rfl _ _ g0 tItem _ (0, 0) _ rfl H12.blkAt Try.underlying33 rfl (by kernel_rfl)) rfl ?_
  exact ⟨R7, .slice a6 b.length c6, le7, hr7, rfl, queue_shut (v := .slice a X.length c) H12.drop.drop2⟩

theorem qclear_nil {w : World} {R : Snap} {L : Asrt} (H : Holds w R L) :
    Calls Try.prog 29 #[.pointer none] w fun e w' => e = .returned (.slice none 0 0) ∧ Holds w' R L := by
  go_enter Try.func29, Try.ntmps29
  go_wp2_with fail
  go_loopw [3] (fun i wx => i = .slice none 0 0 ∧ Holds wx R L) (fun i _ => 0)
  case atStart => exact ⟨rfl, H⟩
  case round =>
    clear H
    obtain ⟨rfl, H1⟩ := hrel
    go_wp2_with fail
    refine qlen_nil.mono ?_
    rintro e w2 ⟨rfl, rfl⟩
    go_wp2_with fail
    go_ret
    exact ⟨rfl, H1⟩

theorem qclear_spec {w : World} {R : Snap} {L : Asrt} {p first n : Nat} {X : List It} {added : Int} {I : List It} (H : Holds w R (star (queueA p X first n added) L)) (hq : QRel X first n I) (hX : X.length ≤ 100000) (hv : ∀ x ∈ I, ∃ ax nx cx, x.v = .slice ax nx cx) :
    Calls Try.prog 29 #[.pointer (some ⟨p, 0, none⟩)] w fun e w' => ∃ v' X' first', e = .returned v' ∧ QRel X' first' 0 [] ∧ X'.length = X.length ∧ ((∀ x ∈ X, x.v.oneCell' = true) → ∀ x ∈ X', x.v.oneCell' = true) ∧ Holds w' R (star (row tItem 4 v' I.length (I.flatMap It.cells)) (star (queueA p X' first' 0 added) L)) := by
  have hn : n = I.length := hq.1.symm
  have hIX : I.length ≤ 100000 := by have := hq.2.1; omega
  subst hn
  have HV := Hid.mk' hv
  have HQ := Hid.mk' hq
  clear hv hq
  go_enter Try.func29, Try.ntmps29
  go_wp2_with fail
  go_loopw [3] (fun o wx => ∃ (D J X' : List It) (first' : Nat), I = D ++ J ∧ X'.length = X.length ∧ Hid (QRel X' first' J.length J) ∧ Hid ((∀ x ∈ X, x.v.oneCell' = true) → ∀ x ∈ X', x.v.oneCell' = true) ∧ Holds wx R (star (row tItem 4 o D.length (D.flatMap It.cells)) (star (queueA p X' first' J.length added) L))) (fun o _ => I.length - (match o with | .slice _ m _ => m | _ => 0))
  case atStart => exact ⟨[], I, X, first, rfl, rfl, HQ, Hid.mk' id, H.nilRow tItem 4⟩
  case round =>
    clear H HQ
    obtain ⟨D, J, X2, f2, hDJ, hX2, HQ2, HO2, H1⟩ := hrel
    obtain ⟨ao, co, rfl⟩ := H1.rowRd.form
    have hlen : I.length = D.length + J.length := by rw [hDJ, List.length_append]
    have HDJ := Hid.mk' hDJ
    clear hDJ
    cases J with
    | nil =>
      go_wp2_with fail
      refine (qlen_spec H1.swap).mono ?_
      rintro e w2 ⟨rfl, rfl⟩
      rw [show (([] : List It).length : Int) = 0 from rfl]
      go_wp2_with fail
      go_ret
      have e1 : I = D := by rw [HDJ.out, List.append_nil]
      refine ⟨_, X2, f2, rfl, HQ2.out, hX2, HO2.out, ?_⟩
      rw [e1]; exact H1
    | cons x J =>
      rw [List.length_cons] at hlen
      obtain ⟨k, hk⟩ : ∃ k, k = (x :: J).length := ⟨_, rfl⟩
      have hk1 : decide ((0 : Int) < (k : Int)) = true := by rw [hk, List.length_cons]; simp
      have HK : Hid (k = (x :: J).length) := Hid.mk' hk
      rw [← hk] at H1
      rw [List.length_cons] at hk
      go_wp2_with fail
      refine (qlen_spec H1.swap).mono ?_
      rintro e w2 ⟨rfl, rfl⟩
      go_wp2_with fail
      refine (qnext_some H1.swap (by rw [HK.out]; exact HQ2.out) (by omega) (HV.out x (by rw [HDJ.out]; simp))).mono ?_
      rintro e w3 ⟨rfl, H2⟩
      obtain ⟨_, _, _, hq3⟩ := q_next zeroIt HQ2.out
      have HQ3 := Hid.mk' hq3
      clear H1 hq3
      obtain ⟨xi, xk, xn, xv⟩ := x
      obtain ⟨ax, nx, cx, hxv⟩ := HV.out _ (show (⟨xi, xk, xn, xv⟩ : It) ∈ I by rw [HDJ.out]; simp)
      simp only at hxv
      subst hxv
      have H3 := H2.alloc #[.int .i64 xi, .int .i64 xk, .string xn, .slice ax nx cx] tItem
      have H4 := H3.alloc #[.int .i64 xi, .int .i64 xk, .string xn, .slice ax nx cx] tItem
      have hr4 : Rd _ 4 _ 1 _ := (H4.toRow 4 1 1 (Nat.le_refl _) (by simp [maxLen]) rfl).rowRd
      simp only [World.size_alloc] at hr4
      go_wp2_with (with_reducible refine stop_append ?_)
      refine Hold.go (wpList_append rfl _ _ rfl undItems infoItem rfl (by decide) rfl rfl H4.drop.drop.swap hr4 (by simp [Value.oneCell']) (by simp only [maxLen]; omega) (by omega) ?_)
      intro v5 w5 H5
      obtain ⟨a5, c5, rfl⟩ := H5.rowRd.form
      go_wp2_with fail
      go_roundw
      case rel =>
        refine ⟨D ++ [⟨xi, xk, xn, .slice ax nx cx⟩], J, X2.set f2 zeroIt, (f2 + 1) % X2.length, by rw [HDJ.out]; simp, by rw [List.length_set]; exact hX2, HQ3, Hid.mk' (fun h y hy => ?_), ?_⟩
        · rcases List.mem_or_eq_of_mem_set hy with h1 | h1
          · exact HO2.out h y h1
          · rw [h1]; rfl
        rw [List.length_append, List.length_singleton, List.flatMap_append]
        exact H5
      case measure => show I.length - (D.length + 1) < I.length - D.length; omega
end Sh
