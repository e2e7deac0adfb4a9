/- QueueOwn: the walk. -/
import Derived.Test.YtmogagcffebbaaaQueuePass
import Derived.Test.YtmogagcffebbaaaQueueLaw
set_option linter.unusedVariables false
set_option linter.unusedSimpArgs false
namespace Sh
open Go Go.RowKit Go.Proofs
attribute [local go_sem ↓] Go.wp_at_zero Go.wp_at_succ
set_option maxHeartbeats 1000000
set_option maxRecDepth 100000

@[go_sem] theorem fldItem (w : World) (a b : Int) (c : ByteArray) (d : Value) : (Instr.field 33 (.agg #[.int .i64 a, .int .i64 b, .string c, d]) 1).run Try.prog w = .ok (.agg #[.int .i64 b, .string c, d]) w := by kernel_rfl
@[go_sem] theorem fldOp (w : World) (b : Int) (c : ByteArray) (d : Value) : (Instr.field 24 (.agg #[.int .i64 b, .string c, d]) 0).run Try.prog w = .ok (.int .i64 b) w := by kernel_rfl

theorem queueOwn_walk (W : World) {vb : Value} {b : List UInt8} (hb : RdB W.cell? vb b) :
    Calls Try.prog 4 #[vb] W fun e w' => e = .returned (.bool true) ∧ Below W.heap.size W w' := by
  obtain ⟨ab, cb, rfl⟩ := hb.form
  have hbS : RdB (Snap.of W).cell? (.slice ab b.length cb) b := hb
  have hbm := hb.max
  unfold maxLen at hbm
  by_cases h1 : b.length < 1
  · have t1 : decide ((b.length : Int) < 1) = true := by simp; omega
    go_enter Try.func4, Try.ntmps4
    go_wp2_with fail
    refine (alive39 (Holds.start W)).mono ?_
    rintro e w2 ⟨rfl, H1⟩
    go_wp2_with fail
    go_ret
    exact ⟨rfl, H1.toBelow (Snap.le.refl _)⟩
  have t1 : decide ((b.length : Int) < 1) = false := by simp; omega
  by_cases h2 : 100 < b.length
  · have t2 : decide ((100 : Int) < (b.length : Int)) = true := by simp; omega
    go_enter Try.func4, Try.ntmps4
    go_wp2_with fail
    refine (alive39 (Holds.start W)).mono ?_
    rintro e w2 ⟨rfl, H1⟩
    go_wp2_with fail
    go_ret
    exact ⟨rfl, H1.toBelow (Snap.le.refl _)⟩
  have t2 : decide ((100 : Int) < (b.length : Int)) = false := by simp; omega
  have hb9 : b.length ≤ 1000000 := by omega
  go_enter Try.func4, Try.ntmps4
  go_wp2_with (with_reducible refine stop_append ?_)
  have H1 : Holds _ (Snap.of W) (star (rowB _ []) emp) := freshB (Holds.start W)
  refine Hold.go (wpList_appendB rfl _ _ rfl rfl rfl H1 (Rd.world hbS H1) (by simp only [List.length_nil]; omega) ?_)
  intro v2 w2 H2
  rw [List.nil_append] at H2
  obtain ⟨a2, c2, rfl⟩ := H2.rowRd.form
  clear H1
  have H3 := queue_new H2
  go_wp2_with fail
  generalize (World.alloc ..) = w3 at H3 ⊢
  generalize w2.heap.size = p at H3 ⊢
  clear H2
  refine (qadd_gen H3 q_empty (by decide) (by simp) (fun w' h => h.rowRd) hb9 (by decide)).mono ?_
  rintro e w4 ⟨v4, X4, f4, rfl, hq4, ho4, hx4, H4⟩
  clear H3
  obtain ⟨a4, c4, rfl⟩ := H4.swap.rowRd.form
  have hx4b : X4.length ≤ 2 := by simpa using hx4
  have HQ4 := Hid.mk' hq4
  clear hq4 hx4 ho4
  obtain ⟨g, cg, hag, hcg, hg, hcell, hfro⟩ := H4.pick3.rowAt (by omega)
  simp only [Value.slice.injEq, true_and] at hag
  obtain ⟨rfl, rfl⟩ := hag
  have i2 : (0 : Int) < (b.length : Int) := by omega
  have i3 : 0 < b.length := by omega
  have c0 := hcell 0 _ (u8s_get b 0 i3)
  have f0 := hfro 0
  have x0 := u8_lt b[0]
  have HS := Hid.mk' fun u => (H4.pick3.rowSet 0 u (by omega)).drop
  generalize b[0] = y0 at c0 x0
  clear hcell hfro
  go_wp2_with fail
  generalize hw5 : World.setCell _ _ _ = w5
  have H5 : Holds w5 (Snap.of W) (star (queueA p X4 f4 (0 + 1) (0 + 1)) (star (rowB (.slice a4 b.length c4) b) emp)) := by rw [← hw5]; exact HS.out _
  clear HS c0 f0 x0 hw5 H4 hg hcg
  refine (qnext_some H5 HQ4.out (by omega) ⟨_, _, _, rfl⟩).mono ?_
  rintro e w6 ⟨rfl, H6⟩
  clear H5
  have H7 := H6.alloc #[.int .i64 0, .int .i64 1, .string ⟨#[97]⟩, .slice a4 b.length c4] tItem
  go_wp2_with fail
  refine (qnext_nil H7).mono ?_
  rintro e w8 ⟨rfl, H8⟩
  have H9 := H8.alloc #[.int .i64 0, .int .i64 0, .string ⟨#[]⟩, .slice none 0 0] tItem
  obtain ⟨l9, n9, c9, z9⟩ := Holds.facts (H9.swap)
  clear H6 H7 H8
  go_wp2_with fail
  generalize w6.heap.size = gx at *
  refine (same_self H9.pick4.rowRd (Rd.world hbS H9) hb9).mono ?_
  rintro e w10 ⟨rfl, q, rfl⟩
  have H10 := (H9.drop.drop.drop.drop).drewN q
  go_wp2_with fail
  refine (qlen_nil).mono ?_
  rintro e w11 ⟨rfl, rfl⟩
  go_wp2_with fail
  refine (qclear_nil H10).mono ?_
  rintro e w12 ⟨rfl, H12⟩
  go_wp2_with fail
  refine (qadd_nil H12).mono ?_
  rintro e w13 ⟨rfl, H13⟩
  go_wp2_with fail
  refine (alive39 H13).mono ?_
  rintro e w14 ⟨rfl, H14⟩
  go_wp2_with fail
  go_ret
  exact ⟨rfl, H14.toBelow (Snap.le.refl _)⟩
end Sh
