/- (*disk.Disk).Image. -/
import Derived.Test.YtdkkadpcgemefaaDiskRead
set_option linter.unusedVariables false
set_option linter.unusedSimpArgs false
namespace Sh
open Go Go.RowKit Go.Proofs
attribute [local go_sem ↓] Go.wp_at_zero Go.wp_at_succ
set_option maxHeartbeats 1000000
set_option maxRecDepth 100000

theorem flatten_len {S : List (List UInt8)} (h : ∀ s ∈ S, s.length = 64) : S.flatten.length = 64 * S.length := by
  induction S with
  | nil => rfl
  | cons x S ih =>
    have h1 := h x List.mem_cons_self
    have h2 := ih fun s hs => h s (List.mem_cons_of_mem _ hs)
    simp only [List.flatten_cons, List.length_append, List.length_cons]
    omega
theorem dimage_spec {w : World} {R : Snap} {L : Asrt} {p : Nat} {S : List (List UInt8)} {left : Int} {dead : Bool} (H : Holds w R (star (diskS p S left dead) L)) (hS : ∀ s ∈ S, s.length = 64) (hl : S.length ≤ 1000) :
    Calls Try.prog 77 #[.pointer (some ⟨p, 0, none⟩)] w fun e w' => ∃ v, e = .returned v ∧ Holds w' R (star (rowB v S.flatten) (star (diskS p S left dead) L)) := by
  have HS := Hid.mk' hS
  have hS1 : Hid (∀ s ∈ S, s.length ≤ 1000000) := fun s hs => by rw [hS s hs]; decide
  clear hS
  go_enter Try.func77, Try.ntmps77
  go_wp2_with fail
  refine (size_spec H).mono ?_
  rintro e w1 ⟨rfl, rfl⟩
  go_wp2_with fail
  go_loopw [4, 10] (fun o i wx => ∃ j : Nat, i = .int .i64 j ∧ j ≤ S.length ∧ Holds wx R (star (rowB o (S.take j).flatten) (star (diskS p S left dead) L))) (fun _ i _ => S.length - (intOf i).toNat)
  case atStart => exact ⟨0, rfl, Nat.zero_le _, H.nilRow tU8 1⟩
  case round =>
    clear H
    obtain ⟨j, rfl, hj, H1⟩ := hrel
    by_cases hlt : j < S.length
    · have hf0 : (S.take (j + 1)).flatten = (S.take j).flatten ++ secAt S j := by
        rw [List.take_succ_eq_append_getElem hlt, List.flatten_append, secAt_nat]
        simp [List.getD, hlt]
      have hf := Hid.mk' hf0
      clear hf0
      have hb1 : (S.take j).flatten.length ≤ 64000 := by
        rw [flatten_len fun s hs => HS.out s (List.mem_of_mem_take hs), List.length_take]; omega
      have hb2 : (secAt S j).length ≤ 64 := by
        rw [secAt_nat, List.getD, List.getElem?_eq_getElem hlt]
        exact Nat.le_of_eq (HS.out _ (List.getElem_mem hlt))
      go_wp2_with (with_reducible refine stop_append ?_)
      refine (dread_spec H1.swap hS1.out).mono ?_
      rintro e w2 ⟨v2, rfl, H2⟩
      clear H1
      go_wp2_with (with_reducible refine stop_append ?_)
      refine Hold.go (wpList_appendB rfl _ _ rfl rfl rfl H2.pick3 H2.rowRd (by omega) ?_)
      intro v3 w3 H3
      clear H2
      go_wp2_with fail
      go_roundw
      case rel => exact ⟨j + 1, by go_num, hlt, by rw [hf.out]; exact H3.drop2⟩
      case measure => simp [intOf]; omega
    · go_wp2_with fail
      go_ret
      rw [List.take_of_length_le (by omega)] at H1
      exact ⟨_, rfl, H1⟩
end Sh
