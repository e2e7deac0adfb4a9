/- sherdref07.Far, sherdref25.Far. -/
import Derived.Test.YtmogagcffebbaaaMsg
set_option linter.unusedVariables false
set_option linter.unusedSimpArgs false
namespace Sh
open Go Go.RowKit Go.Proofs
attribute [local go_sem ↓] Go.wp_at_zero Go.wp_at_succ
set_option maxHeartbeats 1000000
set_option maxRecDepth 100000

def Ms.Small (m : Ms) : Prop := m.name.size ≤ 40 ∧ m.who.length ≤ 300 ∧ m.names.length ≤ 20 ∧ m.data.length ≤ 300
theorem Ms.Small.Sz {m : Ms} (h : m.Small) (h1 : m.name.size ≤ maxLen) (h2 : ∀ s ∈ m.names, s.size ≤ maxLen) : m.Sz := by
  obtain ⟨a, b, c, d⟩ := h
  exact ⟨h1, h2, by omega, by omega, by omega⟩
theorem far07_spec {w : World} {R : Snap} {L : Asrt} {v : Value} {l : List ByteArray} (H : Holds w R L) (hr : RdS R.cell? v l) (hl : l.length ≤ 20) (hs : ∀ s ∈ l, s.size ≤ maxLen) :
    Calls Try.prog 110 #[v] w fun e w' => ∃ b, e = .returned (.bool b) ∧ Holds w' R L := by
  obtain ⟨a, c, rfl⟩ := hr.form
  obtain ⟨n, hn⟩ : ∃ n, n = l.length := ⟨_, rfl⟩
  have HR := Hid.mk' hr
  have HN := Hid.mk' hn
  rw [← hn] at hl ⊢
  clear hn hr
  go_enter Try.func110, Try.ntmps110
  go_wp2_with fail
  go_loopw [3] (fun i wx => ∃ j : Nat, i = .int .i64 j ∧ j ≤ n ∧ Holds wx R L) (fun i _ => n - (intOf i).toNat)
  case atStart => exact ⟨0, rfl, Nat.zero_le _, H⟩
  case round =>
    clear H
    obtain ⟨j, rfl, hj, H1⟩ := hrel
    by_cases hlt : j < n
    · have hjl : j < l.length := by rw [← HN.out]; exact hlt
      obtain ⟨b1, o1, ha, hc⟩ := rdS_at (Rd.world HR.out H1) hjl
      subst ha
      have hsx := hs l[j] (List.getElem_mem hjl)
      generalize l[j] = x at hc hsx
      unfold maxLen at hsx
      have t1 : decide ((j : Int) < (n : Int)) = true := by simp; omega
      have t2 : decide ((j : Int) < 100) = true := by simp; omega
      by_cases h40 : 40 < x.size
      · have t3 : decide ((40 : Int) < (x.size : Int)) = true := by simp; omega
        go_wp2_with fail
        go_ret
        exact ⟨_, rfl, H1⟩
      · have t3 : decide ((40 : Int) < (x.size : Int)) = false := by simp; omega
        go_wp2_with fail
        go_roundw
        case rel => exact ⟨j + 1, by go_num, hlt, H1⟩
        case measure => simp [intOf]; omega
    · have t1 : decide ((j : Int) < (n : Int)) = false := by simp; omega
      go_wp2_with fail
      go_ret
      exact ⟨_, rfl, H1⟩
theorem far25_spec {w : World} {R : Snap} {L : Asrt} (m : Ms) (H : Holds w R L) (hm : m.Rd R.cell?) (hz1 : m.name.size ≤ maxLen) (hz2 : ∀ s ∈ m.names, s.size ≤ maxLen) :
    Calls Try.prog 36 #[.agg m.cells.toArray] w fun e w' => ∃ b, e = .returned (.bool b) ∧ (b = false → m.Small) ∧ Holds w' R L := by
  obtain ⟨kind, from_, to_, ballot, name, attempt, epoch, mark, size, what, vw, vn, vd, who, names, data⟩ := m
  obtain ⟨hw, hn, hd⟩ := hm
  simp only at hw hn hd
  obtain ⟨aw, cw, rfl⟩ := hw.form
  obtain ⟨an, cn, rfl⟩ := hn.form
  obtain ⟨ad, cd, rfl⟩ := hd.form
  simp only at hz1 hz2
  have hz1' := hz1
  have b1 := hw.max
  have b2 := hn.max
  have b3 := hd.max
  unfold maxLen at hz1' b1 b2 b3
  have HN := Hid.mk' hn
  obtain ⟨R1, le1, H1, hb⟩ := H.allocR (.cells #[.int .i64 kind, .int .i64 from_, .int .i64 to_, .int .i64 ballot, .string name, .int .i64 attempt, .int .i64 epoch, .int .i64 mark, .int .i64 size, .int .i64 what, .slice aw who.length cw, .slice an names.length cn, .slice ad data.length cd] tMsg (0, 0))
  clear H hw hn hd
  obtain ⟨l1, n1, c1⟩ := Holds.frzFacts (H1) hb
  show Calls _ _ #[.agg #[.int .i64 kind, .int .i64 from_, .int .i64 to_, .int .i64 ballot, .string name, .int .i64 attempt, .int .i64 epoch, .int .i64 mark, .int .i64 size, .int .i64 what, .slice aw who.length cw, .slice an names.length cn, .slice ad data.length cd]] _ _
  by_cases k1 : 40 < name.size
  · have t1 : decide ((40 : Int) < (name.size : Int)) = true := by simp; omega
    go_enter Try.func36, Try.ntmps36
    go_wp2_with fail
    go_ret
    exact ⟨true, rfl, by simp, H1.weaken le1⟩
  have t1 : decide ((40 : Int) < (name.size : Int)) = false := by simp; omega
  by_cases k2 : 300 < who.length
  · have t2 : decide ((300 : Int) < (who.length : Int)) = true := by simp; omega
    go_enter Try.func36, Try.ntmps36
    go_wp2_with fail
    go_ret
    exact ⟨true, rfl, by simp, H1.weaken le1⟩
  have t2 : decide ((300 : Int) < (who.length : Int)) = false := by simp; omega
  by_cases k3 : 20 < names.length
  · have t3 : decide ((20 : Int) < (names.length : Int)) = true := by simp; omega
    go_enter Try.func36, Try.ntmps36
    go_wp2_with fail
    go_ret
    exact ⟨true, rfl, by simp, H1.weaken le1⟩
  have t3 : decide ((20 : Int) < (names.length : Int)) = false := by simp; omega
  by_cases k4 : 300 < data.length
  · have t4 : decide ((300 : Int) < (data.length : Int)) = true := by simp; omega
    go_enter Try.func36, Try.ntmps36
    go_wp2_with fail
    go_ret
    exact ⟨true, rfl, by simp, H1.weaken le1⟩
  have t4 : decide ((300 : Int) < (data.length : Int)) = false := by simp; omega
  have K := Hid.mk' (show Ms.Small (⟨kind, from_, to_, ballot, name, attempt, epoch, mark, size, what, .slice aw who.length cw, .slice an names.length cn, .slice ad data.length cd, who, names, data⟩ : Ms) from ⟨by show name.size ≤ 40; omega, by show who.length ≤ 300; omega, by show names.length ≤ 20; omega, by show data.length ≤ 300; omega⟩)
  go_enter Try.func36, Try.ntmps36
  go_wp2_with fail
  refine (far07_spec H1 (Rd.le HN.out le1) (by omega) hz2).mono ?_
  rintro e w2 ⟨b, rfl, H2⟩
  go_wp2_with fail
  go_ret
  exact ⟨b, rfl, fun _ => K.out, H2.weaken le1⟩
end Sh
