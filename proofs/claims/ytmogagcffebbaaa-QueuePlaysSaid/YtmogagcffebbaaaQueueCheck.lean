/- queue.Check, sherdref39.Check. -/
import Derived.Test.YtmogagcffebbaaaQueue
import Derived.Test.YtmogagcffebbaaaLabel
set_option linter.unusedVariables false
set_option linter.unusedSimpArgs false
namespace Sh
open Go Go.RowKit Go.Proofs
attribute [local go_sem ↓] Go.wp_at_zero Go.wp_at_succ
set_option maxHeartbeats 1000000
set_option maxRecDepth 100000

/-- What is wrong with an operation. -/
def opBad (kind : Int) (name : ByteArray) (dlen : Nat) : Int :=
  if kind < 1 ∨ 6 < kind ∨ (kind = 4 ∧ 0 < name.size) ∨ (kind ≠ 1 ∧ 0 < dlen) then 1 else if kind ≠ 4 ∧ nameOk name = false then 8 else if 240 < dlen then 7 else 0
theorem name_empty {s : ByteArray} (h : s.size = 0) : s.toList = [] := by rw [ByteArray.toList_eq]; exact List.eq_nil_of_length_eq_zero (by simpa using h)
theorem name_some {s : ByteArray} (h : 0 < s.size) : s.toList.isEmpty = false := by
  rw [ByteArray.toList_eq]
  cases h2 : s.data.toList with
  | nil => have : s.data.toList.length = s.size := by simp
           rw [h2] at this; simp at this; omega
  | cons a t => rfl
theorem check_spec {w : World} {R : Snap} {L : Asrt} {kind : Int} {name : ByteArray} {a : Option Addr} {n c : Nat} (H : Holds w R L) (hs : name.size ≤ maxLen) (hn : n ≤ 1000000) :
    Calls Try.prog 23 #[.agg #[.int .i64 kind, .string name, .slice a n c]] w fun e w' => e = .returned (.int .i64 (opBad kind name n)) ∧ Holds w' R L := by
  have H2 := H.garbage (.cells #[.int .i64 kind, .string name, .slice a n c] 24)
  have hR := right_spec hs
  clear H
  obtain ⟨x, hx⟩ : ∃ x, x = opBad kind name n := ⟨_, rfl⟩
  rw [← hx]
  unfold opBad at hx
  unfold maxLen at hs
  by_cases h1 : kind < 1
  · rw [if_pos (.inl h1)] at hx
    subst hx
    go_enter Try.func23, Try.ntmps23
    go_wp2_with fail
    go_ret
    exact ⟨rfl, H2⟩
  by_cases h6 : 6 < kind
  · rw [if_pos (.inr (.inl h6))] at hx
    subst hx
    have t1 : decide (kind < 1) = false := by simpa using h1
    clear h1
    go_enter Try.func23, Try.ntmps23
    go_wp2_with fail
    go_ret
    exact ⟨rfl, H2⟩
  have t1 : decide (kind < 1) = false := by simpa using h1
  have t6 : decide (6 < kind) = false := by simpa using h6
  by_cases h4 : kind = 4
  · subst h4
    clear t1 t6
    by_cases hn0 : 0 < name.size
    · rw [if_pos (.inr (.inr (.inl ⟨rfl, hn0⟩)))] at hx
      subst hx
      have t2 := name_some hn0
      clear hn0 h1 h6
      go_enter Try.func23, Try.ntmps23
      go_wp2_with fail
      go_ret
      exact ⟨rfl, H2⟩
    · have t2 := name_empty (show name.size = 0 by omega)
      have t3 : (!name.toList.isEmpty) = false := by rw [t2]; rfl
      by_cases hd : 0 < n
      · rw [if_pos (.inr (.inr (.inr ⟨by decide, hd⟩)))] at hx
        subst hx
        have t4 : decide ((0 : Int) < n) = true := by simp; omega
        clear hn0 h1 h6 t2
        go_enter Try.func23, Try.ntmps23
        go_wp2_with fail
        go_ret
        exact ⟨rfl, H2⟩
      · have hx2 : x = 0 := by rw [hx, if_neg (by omega), if_neg (by omega), if_neg (by omega)]
        obtain rfl : n = 0 := by omega
        subst hx2
        clear hn0 h1 h6 t2 hd hx
        go_enter Try.func23, Try.ntmps23
        go_wp2_with fail
        go_ret
        exact ⟨rfl, H2⟩
  have t4 : (kind == 4) = false := by simpa using h4
  have t4n : (kind != 4) = true := by simpa using h4
  by_cases hd : kind ≠ 1 ∧ 0 < n
  · rw [if_pos (.inr (.inr (.inr hd)))] at hx
    subst hx
    have td : 0 < n := hd.2
    have td1 : (kind != 1) = true := by simpa using hd.1
    clear h1 h6 h4 hd
    go_enter Try.func23, Try.ntmps23
    go_wp2_with fail
    go_ret
    exact ⟨rfl, H2⟩
  rw [if_neg (by omega)] at hx
  have td : (kind != 1) = false ∨ ((kind != 1) = true ∧ n = 0) := by
    by_cases h : kind = 1
    · left; simpa using h
    · right; exact ⟨by simpa using h, by omega⟩
  cases hok : nameOk name with
  | false =>
    rw [if_pos ⟨h4, hok⟩] at hx
    subst hx
    rw [hok] at hR
    clear h1 h6 h4 hd hok
    rcases td with td | ⟨td, rfl⟩
    all_goals
      go_enter Try.func23, Try.ntmps23
      go_wp2_with fail
      refine (hR _).mono ?_
      rintro e w2 ⟨rfl, rfl⟩
      go_wp2_with fail
      go_ret
      exact ⟨rfl, H2⟩
  | true =>
    rw [if_neg (by rw [hok]; simp)] at hx
    rw [hok] at hR
    by_cases hb : 240 < n
    · rw [if_pos hb] at hx
      subst hx
      have tb : decide ((240 : Int) < n) = true := by simp; omega
      have td1 : (kind != 1) = false := by
        rcases td with td | ⟨_, rfl⟩
        · exact td
        · omega
      clear h1 h6 h4 hd hok hb td
      go_enter Try.func23, Try.ntmps23
      go_wp2_with fail
      refine (hR _).mono ?_
      rintro e w2 ⟨rfl, rfl⟩
      go_wp2_with fail
      go_ret
      exact ⟨rfl, H2⟩
    · rw [if_neg hb] at hx
      subst hx
      have tb : decide ((240 : Int) < n) = false := by simp; omega
      clear h1 h6 h4 hd hok hb
      rcases td with td | ⟨td, rfl⟩
      all_goals
        go_enter Try.func23, Try.ntmps23
        go_wp2_with fail
        refine (hR _).mono ?_
        rintro e w2 ⟨rfl, rfl⟩
        go_wp2_with fail
        go_ret
        exact ⟨rfl, H2⟩
theorem rcheck_spec {w : World} {R : Snap} {L : Asrt} {kind : Int} {name : ByteArray} {a : Option Addr} {n c : Nat} (H : Holds w R L) (hs : name.size ≤ maxLen) (hn : n ≤ 1000000) :
    Calls Try.prog 24 #[.agg #[.int .i64 kind, .string name, .slice a n c]] w fun e w' => e = .returned (.int .i64 (opBad kind name n)) ∧ Holds w' R L := by
  have H2 := H.garbage (.cells #[.int .i64 kind, .string name, .slice a n c] 24)
  have hR := rright_spec hs
  clear H
  obtain ⟨x, hx⟩ : ∃ x, x = opBad kind name n := ⟨_, rfl⟩
  rw [← hx]
  unfold opBad at hx
  unfold maxLen at hs
  by_cases h1 : kind < 1
  · rw [if_pos (.inl h1)] at hx
    subst hx
    go_enter Try.func24, Try.ntmps24
    go_wp2_with fail
    go_ret
    exact ⟨rfl, H2⟩
  by_cases h6 : 6 < kind
  · rw [if_pos (.inr (.inl h6))] at hx
    subst hx
    have t1 : decide (kind < 1) = false := by simpa using h1
    clear h1
    go_enter Try.func24, Try.ntmps24
    go_wp2_with fail
    go_ret
    exact ⟨rfl, H2⟩
  have t1 : decide (kind < 1) = false := by simpa using h1
  have t6 : decide (6 < kind) = false := by simpa using h6
  by_cases h4 : kind = 4
  · subst h4
    clear t1 t6
    by_cases hn0 : 0 < name.size
    · rw [if_pos (.inr (.inr (.inl ⟨rfl, hn0⟩)))] at hx
      subst hx
      have t2 := hn0
      clear hn0 h1 h6
      go_enter Try.func24, Try.ntmps24
      go_wp2_with fail
      go_ret
      exact ⟨rfl, H2⟩
    · have t2 := 0
      have t3 : name.size = 0 := by omega
      by_cases hd : 0 < n
      · rw [if_pos (.inr (.inr (.inr ⟨by decide, hd⟩)))] at hx
        subst hx
        have t4 : decide ((0 : Int) < n) = true := by simp; omega
        clear hn0 h1 h6 t2
        go_enter Try.func24, Try.ntmps24
        go_wp2_with fail
        go_ret
        exact ⟨rfl, H2⟩
      · have hx2 : x = 0 := by rw [hx, if_neg (by omega), if_neg (by omega), if_neg (by omega)]
        obtain rfl : n = 0 := by omega
        subst hx2
        clear hn0 h1 h6 t2 hd hx
        go_enter Try.func24, Try.ntmps24
        go_wp2_with fail
        go_ret
        exact ⟨rfl, H2⟩
  have t4 : (kind == 4) = false := by simpa using h4
  have t4n : (kind != 4) = true := by simpa using h4
  by_cases hd : kind ≠ 1 ∧ 0 < n
  · rw [if_pos (.inr (.inr (.inr hd)))] at hx
    subst hx
    have td : 0 < n := hd.2
    have td1 : (kind != 1) = true := by simpa using hd.1
    clear h1 h6 h4 hd
    go_enter Try.func24, Try.ntmps24
    go_wp2_with fail
    go_ret
    exact ⟨rfl, H2⟩
  rw [if_neg (by omega)] at hx
  have td : (kind != 1) = false ∨ ((kind != 1) = true ∧ n = 0) := by
    by_cases h : kind = 1
    · left; simpa using h
    · right; exact ⟨by simpa using h, by omega⟩
  cases hok : nameOk name with
  | false =>
    rw [if_pos ⟨h4, hok⟩] at hx
    subst hx
    rw [hok] at hR
    clear h1 h6 h4 hd hok
    rcases td with td | ⟨td, rfl⟩
    all_goals
      go_enter Try.func24, Try.ntmps24
      go_wp2_with fail
      refine (hR _).mono ?_
      rintro e w2 ⟨rfl, rfl⟩
      go_wp2_with fail
      go_ret
      exact ⟨rfl, H2⟩
  | true =>
    rw [if_neg (by rw [hok]; simp)] at hx
    rw [hok] at hR
    by_cases hb : 240 < n
    · rw [if_pos hb] at hx
      subst hx
      have tb : decide ((240 : Int) < n) = true := by simp; omega
      have td1 : (kind != 1) = false := by
        rcases td with td | ⟨_, rfl⟩
        · exact td
        · omega
      clear h1 h6 h4 hd hok hb td
      go_enter Try.func24, Try.ntmps24
      go_wp2_with fail
      refine (hR _).mono ?_
      rintro e w2 ⟨rfl, rfl⟩
      go_wp2_with fail
      go_ret
      exact ⟨rfl, H2⟩
    · rw [if_neg hb] at hx
      subst hx
      have tb : decide ((240 : Int) < n) = false := by simp; omega
      clear h1 h6 h4 hd hok hb
      rcases td with td | ⟨td, rfl⟩
      all_goals
        go_enter Try.func24, Try.ntmps24
        go_wp2_with fail
        refine (hR _).mono ?_
        rintro e w2 ⟨rfl, rfl⟩
        go_wp2_with fail
        go_ret
        exact ⟨rfl, H2⟩
end Sh
