/- sherdref39: the document's queue: Add, Pass, Next, Same. -/
import Derived.Test.YtmogagcffebbaaaQueuePass
set_option linter.unusedVariables false
set_option linter.unusedSimpArgs false
namespace Sh
open Go Go.RowKit Go.Proofs
attribute [local go_sem ↓] Go.wp_at_zero Go.wp_at_succ
set_option maxHeartbeats 1000000
set_option maxRecDepth 100000

abbrev tRItem : TypeId := 47
abbrev tRItems : TypeId := 44
abbrev tRM : TypeId := 46
theorem undRItems : Try.prog.underlying tRItems = some (.slice tRItem) := Try.underlying44
theorem infoRItem : (Try.prog.info? tRItem).map (fun i => (i.zero, i.size, i.bytes)) = some (some (.agg zeroIt.cells.toArray), 4, 56) := by kernel_rfl
/-- An item's cells are plain. -/
def It.plain (x : It) : Prop := ∃ ax nx cx, x.v = .slice ax nx cx
theorem It.plain_one {x : It} (h : x.plain) : ∀ u ∈ x.cells, u.oneCell' = true := by
  obtain ⟨a, b, c, h⟩ := h
  intro u hu
  simp only [It.cells, List.mem_cons, List.not_mem_nil, or_false] at hu
  rcases hu with rfl | rfl | rfl | rfl
  · rfl
  · rfl
  · rfl
  · rw [h]; rfl
theorem items_one {I : List It} (h : ∀ x ∈ I, x.plain) : ∀ u ∈ I.flatMap It.cells, u.oneCell' = true := by
  intro u hu
  obtain ⟨x, hx, hu⟩ := List.mem_flatMap.1 hu
  exact It.plain_one (h x hx) u hu

theorem mpass_spec {w : World} {R : Snap} {L : Asrt} {pm : Nat} {vm : Value} {added : Int} {kind : Int} {name : ByteArray} {a : Option Addr} {n c : Nat} (H : Holds w R (star (blk pm #[vm, .int .i64 added] tRM) L)) (ha : 0 ≤ added ∧ added ≤ 1000000) :
    Calls Try.prog 33 #[.pointer (some ⟨pm, 0, none⟩), .agg #[.int .i64 kind, .string name, .slice a n c]] w fun e w' => e = .returned (.agg (⟨added, kind, name, .slice a n c⟩ : It).cells.toArray) ∧ Holds w' R (star (blk pm #[vm, .int .i64 (added + 1)] tRM) L) := by
  obtain ⟨ha0, ha1⟩ := ha
  have H2 := ((H.set 1 (.int .i64 (added + 1))).alloc #[.int .i64 kind, .string name, .slice a n c] tOp).alloc #[.int .i64 0, .int .i64 0, .string ⟨#[]⟩, .slice none 0 0] tRItem
  simp only [World.size_alloc, World.size_setCell] at H2
  obtain ⟨l1, n1, c1, z1⟩ := Holds.facts (H)
  go_enter Try.func33, Try.ntmps33
  go_wp2_with fail
  generalize hw2 : World.alloc (World.alloc (World.setCell ..) _) _ = w8 at H2 ⊢
  generalize w.heap.size + 1 = g0 at H2 ⊢
  generalize w.heap.size = go at H2 ⊢
  clear l1 n1 c1 z1 H hw2
  have H8 := H2.pick3
  clear H2
  obtain ⟨l8, n8, c8, z8⟩ := Holds.facts (H8)
  obtain ⟨l9, n9, c9, z9⟩ := Holds.facts (H8.pick3)
  obtain ⟨l10, n10, c10, z10⟩ := Holds.facts (H8.swap)
  have e1 : IntKind.i64.wrap (added + 1 - 1) = added := by rw [show added + 1 - 1 = added by omega]; exact IntWalk.i64_in _ (by omega)
  go_still_tail 7, (by kernel_rfl)
  change wpList _ _ _ _ _ w8.drew
  go_wp2_with fail
  have H12 := ((((H8.drew.swap.set 0 (.int .i64 added)).set 1 (.int .i64 kind)).set 2 (.string name)).set 3 (.slice a n c))
  refine bodyPost_ret (results_cell_row rfl _ _ g0 tRItem _ (0, 0) _ rfl H12.blkAt Try.underlying47 rfl (by kernel_rfl)) rfl ?_
  exact ⟨rfl, H12.drop.drop2⟩

theorem madd_spec {w : World} {R : Snap} {L : Asrt} {pm : Nat} {vm : Value} {I : List It} {added : Int} {kind : Int} {name : ByteArray} {a : Option Addr} {n c : Nat} (H : Holds w R (star (blk pm #[vm, .int .i64 added] tRM) L)) (hr : Rd R.cell? 4 vm I.length (I.flatMap It.cells)) (hI : ∀ x ∈ I, x.plain) (hn : I.length ≤ 100000) (ha : 0 ≤ added ∧ added ≤ 1000000) :
    Calls Try.prog 34 #[.pointer (some ⟨pm, 0, none⟩), .agg #[.int .i64 kind, .string name, .slice a n c]] w fun e w' => ∃ (R' : Snap) (v' : Value), R.le R' ∧ Rd R'.cell? 4 v' (I.length + 1) ((I ++ [(⟨added, kind, name, .slice a n c⟩ : It)]).flatMap It.cells) ∧ e = .returned (.agg (⟨added, kind, name, .slice a n c⟩ : It).cells.toArray) ∧ Holds w' R' (star (blk pm #[v', .int .i64 (added + 1)] tRM) L) := by
  obtain ⟨ha0, ha1⟩ := ha
  obtain ⟨am, cm, rfl⟩ := hr.form
  have HO := Hid.mk' (items_one hI)
  clear hI
  have H2 := (H.alloc #[.int .i64 kind, .string name, .slice a n c] tOp).alloc #[.int .i64 0, .int .i64 0, .string ⟨#[]⟩, .slice none 0 0] tRItem
  simp only [World.size_alloc] at H2
  go_enter Try.func34, Try.ntmps34
  go_wp2_with fail
  generalize hw2 : World.alloc (World.alloc w _) _ = w2 at H2 ⊢
  generalize w.heap.size + 1 = g0 at H2 ⊢
  generalize w.heap.size = go at H2 ⊢
  clear H hw2
  obtain ⟨l8, n8, c8, z8⟩ := Holds.facts (H2.pick3)
  obtain ⟨l9, n9, c9, z9⟩ := Holds.facts (H2.swap)
  go_region_held3 (fun w' => (∀ o, w'.cell? ⟨pm, o, none⟩ = #[.slice am I.length cm, .int .i64 added][o]?) ∧ (∀ o, w'.cell? ⟨go, o, none⟩ = #[.int .i64 kind, .string name, .slice a n c][o]?)) ((repeat' (first | assumption | (with_reducible refine And.intro ?_ ?_) | (with_reducible refine keep_drew ?_) | (with_reducible refine keep_drewN ?_) | (with_reducible refine keep_alloc ?_ (by first | assumption | (simp only [World.size_alloc, World.size_drew, World.size_setCell]; omega))) | (with_reducible refine keep_set ?_ (by first | assumption | omega))))) (fail)
  rename_i hHeld
  clear hHeld l8 n8 c8 z8 l9 n9 c9 z9
  have H3 := ((H2.alloc #[.int .i64 added, .int .i64 kind, .string name, .slice a n c] tRItem).drew)
  clear H2
  generalize (World.drew (World.alloc _ _)) = w3 at H3 ⊢
  generalize w2.heap.size = gx at H3 ⊢
  replace H3 := H3.pick3.drop.pick3
  obtain ⟨l8, n8, c8, z8⟩ := Holds.facts (H3)
  obtain ⟨l9, n9, c9, z9⟩ := Holds.facts (H3.swap)
  go_wp2_with fail
  have H4 : Holds _ R (star (row tRItem 4 _ 0 []) _) := (((H3.alloc #[] tRItem).toRow 4 0 0 (Nat.le_refl _) (Nat.zero_le _) rfl)).drew
  have H4b : Holds _ R (star (row tRItem 4 _ 0 []) _) := ((((H3.alloc #[] tRItem).alloc #[.int .i64 added, .int .i64 kind, .string name, .slice a n c] tRItem).swap.toRow 4 0 0 (Nat.le_refl _) (Nat.zero_le _) rfl)).drew
  have H4c : Holds _ R (star (row tRItem 4 _ 0 []) _) := ((((H3.alloc #[.int .i64 added, .int .i64 kind, .string name, .slice a n c] tRItem).alloc #[] tRItem).toRow 4 0 0 (Nat.le_refl _) (Nat.zero_le _) rfl)).drew
  have hr4 := Rd.world hr H4
  have hr4b := Rd.world hr H4b
  have hr4c := Rd.world hr H4c
  simp only [World.size_alloc] at H4 H4b H4c
  have hln : (0 + I.length) ≤ maxLen := by simp only [maxLen]; omega
  go_cut [] (fun wx => ∃ v7, Holds wx R (star (blk pm #[v7, .int .i64 added] tRM) (star (row tRItem 4 v7 (I.length + 1) ((I ++ [(⟨added, kind, name, .slice a n c⟩ : It)]).flatMap It.cells)) (star (blk gx #[.int .i64 added, .int .i64 kind, .string name, .slice a n c] tRItem) (star (blk g0 #[.int .i64 0, .int .i64 0, .string ⟨#[]⟩, .slice none 0 0] tRItem) L)))))
  case first =>
    go_region_law (first | (refine step_append rfl _ _ (by rfl) undRItems infoRItem rfl (by decide) (by rfl) (by rfl) H4 hr4 HO.out hln (by omega) ?_; intro v5 w5 H5; have l5 := H5.swap.blkLt; have l6 := H5.pick3.blkLt; have n5 := H5.swap.blkNe; have n6 := H5.pick3.blkNe; have c5 := H5.swap.blkCell; have c6 := H5.pick3.blkCell) | (refine step_append rfl _ _ (by rfl) undRItems infoRItem rfl (by decide) (by rfl) (by rfl) H4b hr4b HO.out hln (by omega) ?_; intro v5 w5 H5; have c5 := H5.pick3.blkCell; have hr6 : Rd w5.cell? 4 _ 1 _ := (H5.swap.toRow 4 1 1 (Nat.le_refl _) (by simp [maxLen]) rfl).rowRd; have H6 := H5.drop2) | (refine step_append rfl _ _ (by rfl) undRItems infoRItem rfl (by decide) (by rfl) (by rfl) H4c hr4c HO.out hln (by omega) ?_; intro v5 w5 H5; have c5 := H5.pick3.blkCell; have hr6 : Rd w5.cell? 4 _ 1 _ := (H5.swap.toRow 4 1 1 (Nat.le_refl _) (by simp [maxLen]) rfl).rowRd; have H6 := H5.drop2) | (refine step_append rfl _ _ (by rfl) undRItems infoRItem rfl (by decide) (by rfl) (by rfl) H6 hr6 (by simp [Value.oneCell']) (by simp only [maxLen]; omega) (by omega) ?_; intro v7 w7 H7; obtain ⟨a7, c7, rfl⟩ := H7.rowRd.form; have c8 := H7.swap.blkCell; have z8 := H7.swap.blkFrozen) | (have H6 := H5.alloc #[.int .i64 added, .int .i64 kind, .string name, .slice a n c] tRItem; have hr6 : Rd _ 4 _ 1 _ := (H6.toRow 4 1 1 (Nat.le_refl _) (by simp [maxLen]) rfl).rowRd; refine step_append rfl _ _ (by rfl) undRItems infoRItem rfl (by decide) (by rfl) (by rfl) H6.drop hr6 (by simp [Value.oneCell']) (by simp only [maxLen]; omega) (by omega) ?_; intro v7 w7 H7; obtain ⟨a7, c7, rfl⟩ := H7.rowRd.form; have c8 := H7.swap.blkCell; have z8 := H7.swap.blkFrozen))
    all_goals
      go_wp2_with fail
      go_meet
      case rel =>
        have H8 := H7.swap.set 0 (.slice a7 (0 + I.length + 1) c7)
        rw [Nat.zero_add, List.nil_append] at H8
        refine ⟨.slice a7 (I.length + 1) c7, ?_⟩
        rw [List.flatMap_append]
        exact H8
  clear H4 H4b H4c hr4 hr4b hr4c H3 l8 n8 c8 z8 l9 n9 c9 z9
  obtain ⟨v7, H5⟩ := hcut
  obtain ⟨R7, le7, H6, hr7⟩ := H5.swap.freezeRow
  obtain ⟨a7, c7, rfl⟩ := hr7.form
  clear H5
  obtain ⟨l1, n1, c1, z1⟩ := Holds.facts (H6)
  obtain ⟨l2, n2, c2, z2⟩ := Holds.facts (H6.swap)
  obtain ⟨l3, n3, c3, z3⟩ := Holds.facts (H6.pick3)
  obtain ⟨s1, s2⟩ := Holds.apart H6
  obtain ⟨s3, s4⟩ := Holds.apart H6.drop
  obtain ⟨s5, s6⟩ := Holds.apart H6.drop2
  go_wp2_with fail
  have H12 := ((((H6.set 1 (.int .i64 (added + 1))).pick3.set 0 (.int .i64 added)).set 1 (.int .i64 kind)).set 2 (.string name)).set 3 (.slice a n c)
  refine bodyPost_ret (results_cell_row rfl _ _ g0 tRItem _ (0, 0) _ rfl H12.blkAt Try.underlying47 rfl (by kernel_rfl)) rfl ?_
  exact ⟨R7, .slice a7 (I.length + 1) c7, le7, hr7, rfl, H12.drop.drop2⟩
end Sh
