/- BagHeads: the walk. -/
import Derived.Test.YtmogagcffebbaaaBagAlive
import Derived.Test.YtmogagcffebbaaaMsgFar
set_option linter.unusedVariables false
set_option linter.unusedSimpArgs false
namespace Sh
open Go Go.RowKit Go.Proofs
attribute [local go_sem ↓] Go.wp_at_zero Go.wp_at_succ
set_option maxHeartbeats 1000000
set_option maxRecDepth 100000

@[go_sem] theorem Ms.headLit2 (kind from_ to_ ballot : Int) (name : ByteArray) (attempt epoch mark size what : Int) (vw vn vd : Value) (who : List Int) (names : List ByteArray) (data : List UInt8) (a b c : Value) : Ms.head ⟨kind, from_, to_, ballot, name, attempt, epoch, mark, size, what, vw, vn, vd, who, names, data⟩ a b c = ⟨kind, from_, to_, ballot, name, attempt, epoch, mark, size, what, a, b, c, who, names, List.replicate data.length 0⟩ := rfl
theorem head_sz {m : Ms} (h : m.Sz) (a b c : Value) : (m.head a b c).Sz := by
  obtain ⟨h1, h2, h3, h4, h5⟩ := h
  exact ⟨h1, h2, h3, h4, by show (List.replicate m.data.length (0 : UInt8)).length ≤ 1000000; rw [List.length_replicate]; exact h5⟩
theorem head_same {m x : Ms} {a b c a' b' c' : Value} (h1 : m.nums = x.nums) (h2 : m.name = x.name) (h3 : m.who = x.who) (h4 : m.names = x.names) : msSame (x.head a b c) (m.head a' b' c') = decide (x.data.length = m.data.length) := by
  have e : decide (List.replicate x.data.length (0 : UInt8) = List.replicate m.data.length 0) = decide (x.data.length = m.data.length) := by
    congr 1
    apply propext
    constructor
    · intro h; have := congrArg List.length h; simpa using this
    · intro h; rw [h]
  simp only [Ms.nums] at h1
  simp only [msSame, Ms.head, Ms.nums, h1, h2, h3, h4, e, decide_true, Bool.true_and]
theorem bagHeads_walk (W : World) {m : Ms} {vx : Value} {dx : List UInt8} (hm : m.Rd W.cell? ∧ m.name.size ≤ maxLen ∧ ∀ s ∈ m.names, s.size ≤ maxLen) (hx : RdB W.cell? vx dx) :
    Calls Try.prog 7 #[.agg m.cells.toArray, vx] W fun e w' => e = .returned (.bool true) ∧ Below W.heap.size W w' := by
  obtain ⟨hm, hz1, hz2⟩ := hm
  have HM0 : Hid (m.Rd (Snap.of W).cell?) := Hid.mk' hm
  have HX0 : Hid (RdB (Snap.of W).cell? vx dx) := Hid.mk' hx
  have HZ := Hid.mk' (And.intro hz1 hz2)
  have hxm := hx.max
  unfold maxLen at hxm
  obtain ⟨ax, cx, rfl⟩ := hx.form
  obtain ⟨kind, from_, to_, ballot, name, attempt, epoch, mark, size, what, vw, vn, vd, who, names, data⟩ := m
  obtain ⟨hw, hn, hd⟩ := hm
  simp only at hw hn hd
  obtain ⟨aw, cw, rfl⟩ := hw.form
  obtain ⟨an, cn, rfl⟩ := hn.form
  obtain ⟨ad, cd, rfl⟩ := hd.form
  clear hz1 hz2 hw hn hd hx
  show Calls _ _ #[.agg #[.int .i64 kind, .int .i64 from_, .int .i64 to_, .int .i64 ballot, .string name, .int .i64 attempt, .int .i64 epoch, .int .i64 mark, .int .i64 size, .int .i64 what, .slice aw who.length cw, .slice an names.length cn, .slice ad data.length cd], .slice ax dx.length cx] _ _
  obtain ⟨R1, le1, H1, hb1⟩ := (Holds.start W).allocR (.cells #[.int .i64 kind, .int .i64 from_, .int .i64 to_, .int .i64 ballot, .string name, .int .i64 attempt, .int .i64 epoch, .int .i64 mark, .int .i64 size, .int .i64 what, .slice aw who.length cw, .slice an names.length cn, .slice ad data.length cd] tMsg (0, 0))
  have HM := Hid.mk' (HM0.out.le le1)
  have HX := Hid.mk' (Rd.le HX0.out le1)
  obtain ⟨l1, n1, c1⟩ := Holds.frzFacts (H1) hb1
  go_enter Try.func7, Try.ntmps7
  go_wp2_with fail
  generalize (World.alloc ..) = w1 at H1 l1 n1 c1 ⊢
  have hb1' := hb1
  generalize hg : W.heap.size = g at hb1 hb1' l1 n1 c1 ⊢
  refine (far25_spec (⟨kind, from_, to_, ballot, name, attempt, epoch, mark, size, what, .slice aw who.length cw, .slice an names.length cn, .slice ad data.length cd, who, names, data⟩ : Ms) H1 HM.out HZ.out.1 HZ.out.2).mono ?_
  rintro e w5 ⟨b, rfl, hsm, H5⟩
  clear H1 l1 n1 c1
  cases b with
  | true =>
    go_wp2_with fail
    refine (alive44 H5).mono ?_
    rintro e w6 ⟨rfl, H6⟩
    go_wp2_with fail
    go_ret
    exact ⟨rfl, hg ▸ H6.toBelow le1⟩
  | false =>
  by_cases h300 : 300 < dx.length
  · have t300 : decide ((300 : Int) < (dx.length : Int)) = true := by simp; omega
    go_wp2_with fail
    refine (alive44 H5).mono ?_
    rintro e w6 ⟨rfl, H6⟩
    go_wp2_with fail
    go_ret
    exact ⟨rfl, hg ▸ H6.toBelow le1⟩
  have t300 : decide ((300 : Int) < (dx.length : Int)) = false := by simp; omega
  have hsz : Ms.Sz (⟨kind, from_, to_, ballot, name, attempt, epoch, mark, size, what, .slice aw who.length cw, .slice an names.length cn, .slice ad data.length cd, who, names, data⟩ : Ms) := (hsm rfl).Sz HZ.out.1 HZ.out.2
  have HSZ := Hid.mk' hsz
  have HSX : Hid (Ms.Sz (⟨kind, from_, to_, ballot, name, attempt, epoch, mark, size, what, .slice aw who.length cw, .slice an names.length cn, .slice ax dx.length cx, who, names, dx⟩ : Ms)) := Hid.mk' ⟨hsz.1, hsz.2.1, hsz.2.2.1, hsz.2.2.2.1, by show dx.length ≤ 1000000; omega⟩
  clear hsm hsz
  obtain ⟨l5, n5, c5⟩ := Holds.frzFacts (H5) hb1
  obtain ⟨R6, le6, H6, hb6⟩ := H5.allocR (.cells #[.int .i64 kind, .int .i64 from_, .int .i64 to_, .int .i64 ballot, .string name, .int .i64 attempt, .int .i64 epoch, .int .i64 mark, .int .i64 size, .int .i64 what, .slice aw who.length cw, .slice an names.length cn, .slice ax dx.length cx] tMsg (0, 0))
  have hb6' := le6.blk _ _ hb1
  go_upto_region 5 with fail
  generalize (World.alloc ..) = w6 at H6 ⊢
  generalize w5.heap.size = g2 at H6 hb6 l5 n5 c5 ⊢
  clear H5 l5 n5 c5
  obtain ⟨l1, n1, c1⟩ := Holds.frzFacts (H6) hb6'
  obtain ⟨l2, n2, c2⟩ := Holds.frzFacts (H6) hb6
  have HMR := Hid.mk' (HM.out.le le6)
  have HXR : Hid (((⟨kind, from_, to_, ballot, name, attempt, epoch, mark, size, what, .slice aw who.length cw, .slice an names.length cn, .slice ax dx.length cx, who, names, dx⟩ : Ms)).Rd R6.cell?) := Hid.mk' ⟨HMR.out.1, HMR.out.2.1, Rd.le HX.out le6⟩
  have HE : Hid (∀ a b c a' b' c', msSame (((⟨kind, from_, to_, ballot, name, attempt, epoch, mark, size, what, .slice aw who.length cw, .slice an names.length cn, .slice ax dx.length cx, who, names, dx⟩ : Ms)).head a b c) (((⟨kind, from_, to_, ballot, name, attempt, epoch, mark, size, what, .slice aw who.length cw, .slice an names.length cn, .slice ad data.length cd, who, names, data⟩ : Ms)).head a' b' c') = decide (dx.length = data.length)) := Hid.mk' (fun a b c a' b' c' => head_same rfl rfl rfl rfl)
  have HE1 : Hid (∀ a b c a' b' c', msSame (((⟨kind, from_, to_, ballot, name, attempt, epoch, mark, size, what, .slice aw who.length cw, .slice an names.length cn, .slice ad data.length cd, who, names, data⟩ : Ms)).head a b c) (((⟨kind, from_, to_, ballot, name, attempt, epoch, mark, size, what, .slice aw who.length cw, .slice an names.length cn, .slice ad data.length cd, who, names, data⟩ : Ms)).head a' b' c') = true) := Hid.mk' (fun a b c a' b' c' => msSame_con rfl)
  obtain ⟨s, hs⟩ : ∃ s, s = decide ((dx.length : Int) = (data.length : Int)) := ⟨_, rfl⟩
  have hs1 : ((dx.length : Int) == (data.length : Int)) = s := by rw [hs]; rfl
  have hs2 : Hid (decide (dx.length = data.length) = s) := Hid.mk' (by rw [hs]; congr 1; apply propext; omega)
  clear hs
  go_upto_region 6 with fail
  clear hs1
  go_region_held3 (fun w' => (∀ o, w'.cell? ⟨g, o, none⟩ = #[.int .i64 kind, .int .i64 from_, .int .i64 to_, .int .i64 ballot, .string name, .int .i64 attempt, .int .i64 epoch, .int .i64 mark, .int .i64 size, .int .i64 what, .slice aw who.length cw, .slice an names.length cn, .slice ad data.length cd][o]?) ∧ (∀ o, w'.cell? ⟨g2, o, none⟩ = #[.int .i64 kind, .int .i64 from_, .int .i64 to_, .int .i64 ballot, .string name, .int .i64 attempt, .int .i64 epoch, .int .i64 mark, .int .i64 size, .int .i64 what, .slice aw who.length cw, .slice an names.length cn, .slice ax dx.length cx][o]?)) (first | (exact And.intro (H14.frz ((le9.trans le12).blk _ _ (le8.blk _ _ (le7.blk _ _ hb6')))) (H14.frz ((le9.trans le12).blk _ _ (le8.blk _ _ (le7.blk _ _ hb6))))) | (exact And.intro (H13.frz ((le9.trans le12).blk _ _ (le8.blk _ _ (le7.blk _ _ hb6')))) (H13.frz ((le9.trans le12).blk _ _ (le8.blk _ _ (le7.blk _ _ hb6))))) | (exact And.intro (H12.frz ((le9.trans le12).blk _ _ (le8.blk _ _ (le7.blk _ _ hb6')))) (H12.frz ((le9.trans le12).blk _ _ (le8.blk _ _ (le7.blk _ _ hb6))))) | (exact And.intro (H11.frz (le9.blk _ _ (le8.blk _ _ (le7.blk _ _ hb6')))) (H11.frz (le9.blk _ _ (le8.blk _ _ (le7.blk _ _ hb6))))) | (exact And.intro (H9.frz (le8.blk _ _ (le7.blk _ _ hb6'))) (H9.frz (le8.blk _ _ (le7.blk _ _ hb6)))) | (exact And.intro (H8.frz (le8.blk _ _ (le7.blk _ _ hb6'))) (H8.frz (le8.blk _ _ (le7.blk _ _ hb6)))) | (exact And.intro (H7.frz (le7.blk _ _ hb6')) (H7.frz (le7.blk _ _ hb6))) | ((repeat' (first | assumption | (with_reducible refine And.intro ?_ ?_) | (with_reducible refine keep_drew ?_) | (with_reducible refine keep_drewN ?_) | (with_reducible refine keep_alloc ?_ (by first | assumption | (simp only [World.size_alloc, World.size_drew, World.size_setCell]; omega))) | (with_reducible refine keep_set ?_ (by first | assumption | omega))))))
    (first | (go_at_call 35; refine (alive44 H13).mono ?_; rintro e w14 ⟨rfl, H14⟩) | (go_at_call 48; refine (rhead_spec (⟨kind, from_, to_, ballot, name, attempt, epoch, mark, size, what, .slice aw who.length cw, .slice an names.length cn, .slice ad data.length cd, who, names, data⟩ : Ms) H7 (HMR.out.le le7) HSZ.out).mono ?_; rintro e w8 ⟨R8, le8, vd8, rd8, rfl, H8⟩) | (go_at_call 47; first | (refine (bhead_spec (⟨kind, from_, to_, ballot, name, attempt, epoch, mark, size, what, .slice aw who.length cw, .slice an names.length cn, .slice ad data.length cd, who, names, data⟩ : Ms) H11 (fun w' h => ((HMR.out.le (le7.trans le8)).le le9).world h) HSZ.out).mono ?_; rintro e w12 ⟨R12, le12, vw12, rw12, vn12, rn12, vd12, rd12, rfl, H12⟩) | (refine (bhead_spec (⟨kind, from_, to_, ballot, name, attempt, epoch, mark, size, what, .slice aw who.length cw, .slice an names.length cn, .slice ax dx.length cx, who, names, dx⟩ : Ms) H9 (fun w' h => (HXR.out.le (le7.trans le8)).world h) HSX.out).mono ?_; rintro e w11 ⟨R9, le9, vw9, rw9, vn9, rn9, vd9, rd9, rfl, H11⟩) | (refine (bhead_spec (⟨kind, from_, to_, ballot, name, attempt, epoch, mark, size, what, .slice aw who.length cw, .slice an names.length cn, .slice ad data.length cd, who, names, data⟩ : Ms) H6.drew (fun w' h => HMR.out.world h) HSZ.out).mono ?_; rintro e w7 ⟨R7, le7, vw7, rw7, vn7, rn7, vd7, rd7, rfl, H7⟩)) | (go_at_call 41; first | (refine (same25_spec (((⟨kind, from_, to_, ballot, name, attempt, epoch, mark, size, what, .slice aw who.length cw, .slice an names.length cn, .slice ax dx.length cx, who, names, dx⟩ : Ms)).head vw9 vn9 vd9) (((⟨kind, from_, to_, ballot, name, attempt, epoch, mark, size, what, .slice aw who.length cw, .slice an names.length cn, .slice ad data.length cd, who, names, data⟩ : Ms)).head vw12 vn12 vd12) H12 ⟨Rd.le rw9 le12, Rd.le rn9 le12, Rd.le rd9 le12⟩ (head_sz HSX.out _ _ _) ⟨rw12, rn12, rd12⟩ (head_sz HSZ.out _ _ _)).mono ?_; rintro e w13 ⟨rfl, H13⟩; rw [HE.out, hs2.out]) | (refine (same25_spec (((⟨kind, from_, to_, ballot, name, attempt, epoch, mark, size, what, .slice aw who.length cw, .slice an names.length cn, .slice ad data.length cd, who, names, data⟩ : Ms)).head vw7 vn7 vd7) (((⟨kind, from_, to_, ballot, name, attempt, epoch, mark, size, what, .slice aw who.length cw, .slice an names.length cn, .slice ad data.length cd, who, names, data⟩ : Ms)).head (.slice aw who.length cw) (.slice an names.length cn) vd8) H8 ⟨Rd.le rw7 le8, Rd.le rn7 le8, Rd.le rd7 le8⟩ (head_sz HSZ.out _ _ _) ⟨(HMR.out.le (le7.trans le8)).1, (HMR.out.le (le7.trans le8)).2.1, rd8⟩ (head_sz HSZ.out _ _ _)).mono ?_; rintro e w9 ⟨rfl, H9⟩; rw [HE1.out])))
  all_goals
    go_wp2_with fail
    go_ret
    exact ⟨rfl, hg ▸ H14.toBelow (((((le1.trans le6).trans le7).trans le8).trans le9).trans le12)⟩
end Sh
