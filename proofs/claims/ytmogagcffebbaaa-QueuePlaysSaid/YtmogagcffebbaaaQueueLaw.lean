/- sherdlaw39: alive; an operation as an argument; QueueChecks. -/
import Derived.Test.YtmogagcffebbaaaQueueAdd
import Derived.Test.YtmogagcffebbaaaQueueCheck
set_option linter.unusedVariables false
set_option linter.unusedSimpArgs false
namespace Sh
open Go Go.RowKit Go.Proofs
attribute [local go_sem ↓] Go.wp_at_zero Go.wp_at_succ
set_option maxHeartbeats 1000000
set_option maxRecDepth 100000

@[go_sem] theorem It.lit (a b : Int) (c : ByteArray) (d : Value) : (It.cells ⟨a, b, c, d⟩).toArray = #[.int .i64 a, .int .i64 b, .string c, d] := rfl
abbrev tQueue : TypeId := 31
theorem queue_new {w : World} {R : Snap} {L : Asrt} (H : Holds w R L) : Holds (w.alloc (.cells #[.slice none 0 0, .int .i64 0, .int .i64 0, .int .i64 0] tQueue)) R (star (queueA w.heap.size [] 0 0 0) L) :=
  queue_shut (X := []) (first := 0) (n := 0) (added := 0) (v := .slice none 0 0) ((H.alloc #[.slice none 0 0, .int .i64 0, .int .i64 0, .int .i64 0] tQueue).nilRow tItem 4).swap
theorem alive39 {w : World} {R : Snap} {L : Asrt} (H : Holds w R L) :
    Calls Try.prog 22 #[] w fun e w' => e = .returned (.bool true) ∧ Holds w' R L := by
  have H1 := queue_new H
  clear H
  go_enter Try.func22, Try.ntmps22
  go_wp2_with fail
  generalize (World.alloc ..) = w1 at H1 ⊢
  generalize w.heap.size = p at H1 ⊢
  have hname : (⟨#[]⟩ : ByteArray).size = 0 := rfl
  refine (qadd_spec (kind := 4) (name := ⟨#[]⟩) (b := []) H1 q_empty (by decide) (by simp) RdB.nil (by decide) (by decide)).mono ?_
  rintro e w2 ⟨R2, v2, X2, f2, le2, hr2, rfl, hq2, ho2, hx2, H2⟩
  clear H1
  obtain ⟨a2, c2, rfl⟩ := hr2.form
  have HQ2 := Hid.mk' hq2
  have HO2 := Hid.mk' ho2
  have hx2b : X2.length ≤ 2 := by simpa using hx2
  clear hq2 ho2 hx2
  go_wp2_with fail
  refine (qadd_spec (kind := 2) (name := ⟨#[97]⟩) (b := []) H2 HQ2.out (by omega) HO2.out RdB.nil (by decide) (by decide)).mono ?_
  rintro e w3 ⟨R3, v3, X3, f3, le3, hr3, rfl, hq3, ho3, hx3, H3⟩
  clear H2
  obtain ⟨a3, c3, rfl⟩ := hr3.form
  have HQ3 := Hid.mk' hq3
  have hx3b : X3.length ≤ 4 := by omega
  clear hq3 ho3 hx3
  go_wp2_with fail
  have H4 := (((H3.alloc #[.int .i64 0, .int .i64 4, .string ⟨#[]⟩, .slice a2 0 c2] tItem).alloc #[.int .i64 1, .int .i64 2, .string ⟨#[97]⟩, .slice a3 0 c3] tItem)).pick3
  simp only [World.size_alloc] at H4
  generalize (World.alloc ..) = w4 at H4 ⊢
  generalize w3.heap.size + 1 = g1 at H4 ⊢
  generalize w3.heap.size = g0 at H4 ⊢
  clear H3
  refine (qnext_some H4 HQ3.out (by omega) ⟨_, _, _, rfl⟩).mono ?_
  rintro e w5 ⟨rfl, H5⟩
  clear H4
  have H6 := ((H5.alloc #[.int .i64 0, .int .i64 4, .string ⟨#[]⟩, .slice a2 0 c2] tItem).swap)
  obtain ⟨l6, n6, c6, z6⟩ := Holds.facts (H6.swap)
  obtain ⟨l7, n7, c7, z7⟩ := Holds.facts (H6.pick3)
  obtain ⟨l8, n8, c8, z8⟩ := Holds.facts (H6.pick4)
  clear H5
  go_wp2_with fail
  refine (qlen_spec H6).mono ?_
  rintro e w6 ⟨rfl, rfl⟩
  have hk1 : opBad 2 ⟨#[97]⟩ 0 = 0 := by decide
  have hk2 : opBad 0 ⟨#[]⟩ 0 = 1 := by decide
  have hm1 : (⟨#[97]⟩ : ByteArray).size ≤ maxLen := by decide
  have hm2 : (⟨#[]⟩ : ByteArray).size ≤ maxLen := by decide
  go_wp2_with fail
  refine (check_spec (kind := 2) (name := ⟨#[97]⟩) (a := none) (n := 0) (c := 0) H6 hm1 (by decide)).mono ?_
  rintro e w7 ⟨rfl, H7⟩
  rw [hk1]
  go_wp2_with fail
  refine (check_spec (kind := 0) (name := ⟨#[]⟩) (a := none) (n := 0) (c := 0) H7 hm2 (by decide)).mono ?_
  rintro e w8 ⟨rfl, H8⟩
  rw [hk2]
  go_wp2_with fail
  go_ret
  exact ⟨rfl, (H8.drop.drop.drop.drop).weaken (le2.trans le3)⟩
/-- An operation, as an argument. -/
structure Op3 where
  kind : Int
  name : ByteArray
  v : Value
  b : List UInt8
instance : Inhabited Op3 := ⟨⟨0, ByteArray.empty, .slice none 0 0, []⟩⟩
def Op3.cells (a : Op3) : List Value := [.int .i64 a.kind, .string a.name, a.v]
def Op3.Good (c : Addr → Option Value) (a : Op3) : Prop := RdB c a.v a.b ∧ a.name.size ≤ maxLen ∧ IntKind.i64.min ≤ a.kind ∧ a.kind ≤ IntKind.i64.max
theorem queueChecks_walk (W : World) {a : Op3} (h : a.Good W.cell?) :
    Calls Try.prog 3 #[.agg a.cells.toArray] W fun e w' => e = .returned (.bool true) ∧ Below W.heap.size W w' := by
  obtain ⟨kind, name, v, b⟩ := a
  obtain ⟨hb, hn, _⟩ := h
  obtain ⟨av, cv, hv⟩ := hb.form
  simp only at hv hn hb
  subst hv
  have hbm := hb.max
  obtain ⟨n, hnn⟩ : ∃ n, n = b.length := ⟨_, rfl⟩
  show Calls _ _ #[.agg #[.int .i64 kind, .string name, .slice av b.length cv]] _ _
  rw [← hnn] at hbm ⊢
  clear hb hnn
  have hnm := hn
  unfold maxLen at hn hbm
  have H1 := (Holds.start W).alloc #[.int .i64 kind, .string name, .slice av n cv] 24
  have H2 := H1.drop
  have HB : Hid (∀ w' R L, Holds w' R L → (Snap.of W).le R → Below W.heap.size W w') := Hid.mk' fun w' R L h h2 => h.toBelow h2
  by_cases h1 : 60 < name.size
  · go_enter Try.func3, Try.ntmps3
    go_wp2_with fail
    refine (alive39 H2).mono ?_
    rintro e w3 ⟨rfl, H3⟩
    go_wp2_with fail
    go_ret
    exact ⟨rfl, H3.toBelow (Snap.le.refl _)⟩
  by_cases h2 : 300 < n
  · go_enter Try.func3, Try.ntmps3
    go_wp2_with fail
    refine (alive39 H2).mono ?_
    rintro e w3 ⟨rfl, H3⟩
    go_wp2_with fail
    go_ret
    exact ⟨rfl, H3.toBelow (Snap.le.refl _)⟩
  have hn3 : n ≤ 1000000 := by omega
  go_enter Try.func3, Try.ntmps3
  go_wp2_with fail
  generalize (World.alloc ..) = w1 at H1 ⊢
  generalize W.heap.size = g at H1 ⊢
  clear H2
  obtain ⟨l1, n1, c1, z1⟩ := Holds.facts (H1)
  go_region_held3 (fun w' => (∀ o, w'.cell? ⟨g, o, none⟩ = #[.int .i64 kind, .string name, .slice av n cv][o]?)) (first | (exact H4.blkCell) | (exact H3.blkCell) | (exact H2.blkCell) | ((repeat' (first | assumption | (with_reducible refine And.intro ?_ ?_) | (with_reducible refine keep_drew ?_) | (with_reducible refine keep_drewN ?_) | (with_reducible refine keep_alloc ?_ (by first | assumption | (simp only [World.size_alloc, World.size_drew, World.size_setCell]; omega))) | (with_reducible refine keep_set ?_ (by first | assumption | omega))))))
    (first | (go_at_call 23; refine (check_spec H1.drew hnm hn3).mono ?_; rintro e w2 ⟨rfl, H2⟩) | (go_at_call 24; refine (rcheck_spec H2 hnm hn3).mono ?_; rintro e w3 ⟨rfl, H3⟩) | (go_at_call 22; refine (alive39 H3).mono ?_; rintro e w4 ⟨rfl, H4⟩))
  all_goals
    go_wp2_with fail
    go_ret
    exact ⟨rfl, HB.out _ _ _ H4 (Snap.le.refl _)⟩
end Sh
