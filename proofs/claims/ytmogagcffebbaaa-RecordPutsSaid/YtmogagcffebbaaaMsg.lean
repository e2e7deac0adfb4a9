/- A message: its cells; whether it may be (msg.Right). -/
import Derived.Test.YtmogagcffebbaaaMsgIn
set_option linter.unusedVariables false
set_option linter.unusedSimpArgs false
namespace Sh
open Go Go.RowKit Go.Proofs
attribute [local go_sem ↓] Go.wp_at_zero Go.wp_at_succ
set_option maxHeartbeats 1000000
set_option maxRecDepth 100000

structure Ms where
  kind : Int
  from_ : Int
  to_ : Int
  ballot : Int
  name : ByteArray
  attempt : Int
  epoch : Int
  mark : Int
  size : Int
  what : Int
  vw : Value
  vn : Value
  vd : Value
  who : List Int
  names : List ByteArray
  data : List UInt8
instance : Inhabited Ms := ⟨⟨0, 0, 0, 0, ByteArray.empty, 0, 0, 0, 0, 0, .slice none 0 0, .slice none 0 0, .slice none 0 0, [], [], []⟩⟩
abbrev tMsg : TypeId := 63
def Ms.cells (m : Ms) : List Value := [.int .i64 m.kind, .int .i64 m.from_, .int .i64 m.to_, .int .i64 m.ballot, .string m.name, .int .i64 m.attempt, .int .i64 m.epoch, .int .i64 m.mark, .int .i64 m.size, .int .i64 m.what, m.vw, m.vn, m.vd]
theorem Ms.cells_len (m : Ms) : m.cells.length = 13 := rfl
/-- The message's slices read as its lists. -/
def Ms.Rd (c : Addr → Option Value) (m : Ms) : Prop := RdI c m.vw m.who ∧ RdS c m.vn m.names ∧ RdB c m.vd m.data
/-- Its sizes. -/
def Ms.Sz (m : Ms) : Prop := m.name.size ≤ maxLen ∧ (∀ s ∈ m.names, s.size ≤ maxLen) ∧ m.who.length ≤ 1000000 ∧ m.names.length ≤ 1000000 ∧ m.data.length ≤ 1000000
theorem Ms.Rd.le {R R' : Snap} {m : Ms} (h : m.Rd R.cell?) (l : R.le R') : m.Rd R'.cell? := ⟨Sh.Rd.le h.1 l, Sh.Rd.le h.2.1 l, Sh.Rd.le h.2.2 l⟩
theorem Ms.Rd.world {w : World} {R : Snap} {L : Asrt} {m : Ms} (h : m.Rd R.cell?) (H : Holds w R L) : m.Rd w.cell? := ⟨Sh.Rd.world h.1 H, Sh.Rd.world h.2.1 H, Sh.Rd.world h.2.2 H⟩
def msgOk (m : Ms) : Bool :=
  decide (1 ≤ m.kind) && decide (m.kind ≤ 25) && decide (m.from_ ≠ m.to_) && inAll 256 [m.from_, m.to_] && inAll 4294967295 [m.ballot, m.attempt, m.epoch, m.mark] && inAll 4294967295 m.who &&
  inAll 240 [m.size, (m.data.length : Int)] && inAll 255 [m.what, (m.who.length : Int)] && decide (m.names.length ≤ 8) && m.names.all nameOk && (decide (m.name.size = 0) || nameOk m.name)

theorem right25_spec {w : World} {R : Snap} {L : Asrt} (m : Ms) (H : Holds w R L) (hr : ∀ w', Holds w' R L → m.Rd w'.cell?) (hz : m.Sz) :
    Calls Try.prog 53 #[.agg m.cells.toArray] w fun e w' => e = .returned (.bool (msgOk m)) ∧ Holds w' R L := by
  obtain ⟨x, hx⟩ : ∃ x, x = msgOk m := ⟨_, rfl⟩
  rw [← hx]
  have hm := hr w H
  obtain ⟨kind, from_, to_, ballot, name, attempt, epoch, mark, size, what, vw, vn, vd, who, names, data⟩ := m
  obtain ⟨hw, hn, hd⟩ := hm
  obtain ⟨z1, z2, z3, z4, z5⟩ := hz
  simp only at z1 z2 z3 z4 z5 hw hn hd
  obtain ⟨aw, cw, rfl⟩ := hw.form
  obtain ⟨an, cn, rfl⟩ := hn.form
  obtain ⟨ad, cd, rfl⟩ := hd.form
  have HX := Hid.mk' hx
  have HM := Hid.mk' hr
  have hR := right_spec z1
  have hz1 := z1
  unfold maxLen at hz1
  obtain ⟨R1, le1, H1, hb⟩ := H.allocR (.cells #[.int .i64 kind, .int .i64 from_, .int .i64 to_, .int .i64 ballot, .string name, .int .i64 attempt, .int .i64 epoch, .int .i64 mark, .int .i64 size, .int .i64 what, .slice aw who.length cw, .slice an names.length cn, .slice ad data.length cd] tMsg (0, 0))
  clear hw hn hd hx H hr
  obtain ⟨l1, n1, c1⟩ := Holds.frzFacts (H1) hb
  show Calls _ _ #[.agg #[.int .i64 kind, .int .i64 from_, .int .i64 to_, .int .i64 ballot, .string name, .int .i64 attempt, .int .i64 epoch, .int .i64 mark, .int .i64 size, .int .i64 what, .slice aw who.length cw, .slice an names.length cn, .slice ad data.length cd]] _ _
  by_cases k1 : kind < 1
  · have t1 : decide (kind < 1) = true := by simpa using k1
    go_enter Try.func53, Try.ntmps53
    go_wp2_with fail
    go_ret
    exact ⟨ret_bool (by rw [HX.out]; simp [msgOk]; omega), H1.weaken le1⟩
  have t1 : decide (kind < 1) = false := by simpa using k1
  by_cases k2 : 25 < kind
  · have t2 : decide (25 < kind) = true := by simpa using k2
    go_enter Try.func53, Try.ntmps53
    go_wp2_with fail
    go_ret
    exact ⟨ret_bool (by rw [HX.out]; simp [msgOk]; omega), H1.weaken le1⟩
  have t2 : decide (25 < kind) = false := by simpa using k2
  by_cases k3 : from_ = to_
  · have t3 : (from_ == to_) = true := by simpa using k3
    have K3 := Hid.mk' k3
    clear k3
    go_enter Try.func53, Try.ntmps53
    go_wp2_with fail
    go_ret
    exact ⟨ret_bool (by rw [HX.out]; simp [msgOk, K3.out]), H1.weaken le1⟩
  have t3 : (from_ == to_) = false := by simpa using k3
  have K := Hid.mk' (And.intro (show 1 ≤ kind by omega) (And.intro (show kind ≤ 25 by omega) k3))
  have H2 := H1.alloc #[.int .i64 from_, .int .i64 to_] tInt
  simp only [World.size_alloc] at H2
  go_enter Try.func53, Try.ntmps53
  go_wp2_with fail
  generalize hg : w.heap.size = g at *
  clear hg
  refine (in_spec (l := [from_, to_]) H2 (fun w' h => (h.toRow 1 2 2 (Nat.le_refl _) (by decide) rfl).rowRd) (by simp)).mono ?_
  rintro e w3 ⟨rfl, H3⟩
  replace H3 := H3.drop
  clear H1 l1 n1 c1 H2
  obtain ⟨l3, n3, c3⟩ := Holds.frzFacts (H3) hb
  cases b4 : inAll 256 [from_, to_] with
  | false =>
    go_wp2_with fail
    go_ret
    exact ⟨ret_bool (by rw [HX.out]; simp [msgOk, b4]), H3.weaken le1⟩
  | true =>
  have B4 := Hid.mk' b4
  clear b4
  have H4 := H3.alloc #[.int .i64 ballot, .int .i64 attempt, .int .i64 epoch, .int .i64 mark] tInt
  go_wp2_with fail
  refine (in_spec (l := [ballot, attempt, epoch, mark]) H4 (fun w' h => (h.toRow 1 4 4 (Nat.le_refl _) (by decide) rfl).rowRd) (by simp)).mono ?_
  rintro e w5 ⟨rfl, H5⟩
  replace H5 := H5.drop
  clear H4 H3 l3 n3 c3
  obtain ⟨l5, n5, c5⟩ := Holds.frzFacts (H5) hb
  cases b5 : inAll 4294967295 [ballot, attempt, epoch, mark] with
  | false =>
    go_wp2_with fail
    go_ret
    exact ⟨ret_bool (by rw [HX.out]; simp [msgOk, b5]), H5.weaken le1⟩
  | true =>
  have B5 := Hid.mk' b5
  clear b5
  go_wp2_with fail
  refine (in_spec H5 (fun w' h => (HM.out w' (h.weaken le1)).1) z3).mono ?_
  rintro e w6 ⟨rfl, H6⟩
  clear H5 l5 n5 c5
  obtain ⟨l6, n6, c6⟩ := Holds.frzFacts (H6) hb
  cases b6 : inAll 4294967295 who with
  | false =>
    go_wp2_with fail
    go_ret
    exact ⟨ret_bool (by rw [HX.out]; simp [msgOk, b6]), H6.weaken le1⟩
  | true =>
  have B6 := Hid.mk' b6
  clear b6
  have H7 := H6.alloc #[.int .i64 size, .int .i64 (data.length : Int)] tInt
  go_wp2_with fail
  refine (in_spec (l := [size, (data.length : Int)]) H7 (fun w' h => (h.toRow 1 2 2 (Nat.le_refl _) (by decide) rfl).rowRd) (by simp)).mono ?_
  rintro e w8 ⟨rfl, H8⟩
  replace H8 := H8.drop
  clear H7 H6 l6 n6 c6
  obtain ⟨l8, n8, c8⟩ := Holds.frzFacts (H8) hb
  cases b7 : inAll 240 [size, (data.length : Int)] with
  | false =>
    go_wp2_with fail
    go_ret
    exact ⟨ret_bool (by rw [HX.out]; simp [msgOk, b7]), H8.weaken le1⟩
  | true =>
  have B7 := Hid.mk' b7
  clear b7
  have H9 := H8.alloc #[.int .i64 what, .int .i64 (who.length : Int)] tInt
  go_wp2_with fail
  refine (in_spec (l := [what, (who.length : Int)]) H9 (fun w' h => (h.toRow 1 2 2 (Nat.le_refl _) (by decide) rfl).rowRd) (by simp)).mono ?_
  rintro e w10 ⟨rfl, H10⟩
  replace H10 := H10.drop
  clear H9 H8 l8 n8 c8
  obtain ⟨l10, n10, c10⟩ := Holds.frzFacts (H10) hb
  cases b8 : inAll 255 [what, (who.length : Int)] with
  | false =>
    go_wp2_with fail
    go_ret
    exact ⟨ret_bool (by rw [HX.out]; simp [msgOk, b8]), H10.weaken le1⟩
  | true =>
  have B8 := Hid.mk' b8
  clear b8
  by_cases k9 : 8 < names.length
  · have t9 : decide ((8 : Int) < (names.length : Int)) = true := by simp; omega
    go_wp2_with fail
    go_ret
    exact ⟨ret_bool (by rw [HX.out]; have : decide (names.length ≤ 8) = false := by simp; omega
                        simp [msgOk, this]), H10.weaken le1⟩
  have t9 : decide ((8 : Int) < (names.length : Int)) = false := by simp; omega
  have K9 : Hid (decide (names.length ≤ 8) = true) := Hid.mk' (by simp; omega)
  clear k9
  go_wp2_with fail
  refine (hasStr_spec H10 (fun w' h => (HM.out w' (h.weaken le1)).2.1) z4 z2).mono ?_
  rintro e w11 ⟨rfl, H11⟩
  clear H10 l10 n10 c10
  obtain ⟨l11, n11, c11⟩ := Holds.frzFacts (H11) hb
  cases b10 : names.all nameOk with
  | false =>
    go_wp2_with fail
    go_ret
    exact ⟨ret_bool (by rw [HX.out]; simp only [msgOk, b10, Bool.and_false, Bool.false_and]), H11.weaken le1⟩
  | true =>
  have B10 := Hid.mk' b10
  clear b10
  have fin : Hid (x = (decide (name.size = 0) || nameOk name)) := Hid.mk' (by
    rw [HX.out]
    simp only [msgOk, B4.out, B5.out, B6.out, B7.out, B8.out, K9.out, B10.out, Bool.and_true, Bool.true_and]
    have h1 : decide (1 ≤ kind) = true := by simpa using K.out.1
    have h2 : decide (kind ≤ 25) = true := by simpa using K.out.2.1
    have h3 : decide (from_ ≠ to_) = true := by simpa using K.out.2.2
    rw [h1, h2, h3]; rfl)
  by_cases hs0 : name.size = 0
  · have e1 : name.toList.isEmpty = true := by rw [str_nil hs0]; rfl
    go_wp2_with fail
    go_ret
    exact ⟨ret_bool (by rw [fin.out]; simp [hs0]), H11.weaken le1⟩
  · have e1 : name.toList.isEmpty = false := str_some (by omega)
    have S0 : Hid (¬ name.size = 0) := Hid.mk' hs0
    clear hs0
    go_wp2_with fail
    refine (hR _).mono ?_
    rintro e w12 ⟨rfl, rfl⟩
    go_wp2_with fail
    go_ret
    exact ⟨ret_bool (by rw [fin.out]; have h := S0.out; simp [h]), H11.weaken le1⟩
end Sh
