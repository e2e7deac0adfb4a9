/- msg: 'in'; slices.ContainsFunc of numbers and of texts. -/
import Derived.Test.YtmogagcffebbaaaElts
import Derived.Test.YtmogagcffebbaaaLabel
set_option linter.unusedVariables false
set_option linter.unusedSimpArgs false
namespace Sh
open Go Go.RowKit Go.Proofs
attribute [local go_sem ↓] Go.wp_at_zero Go.wp_at_succ
set_option maxHeartbeats 1000000
set_option maxRecDepth 100000

abbrev tInt : TypeId := 3
/-- A slice that reads as numbers; as texts. -/
abbrev RdI (c : Addr → Option Value) (v : Value) (l : List Int) : Prop := Rd c 1 v l.length (l.map (Value.int .i64))
abbrev RdS (c : Addr → Option Value) (v : Value) (l : List ByteArray) : Prop := Rd c 1 v l.length (l.map Value.string)
theorem str_nil {s : ByteArray} (h : s.size = 0) : s.toList = [] := by rw [ByteArray.toList_eq]; exact List.eq_nil_of_length_eq_zero (by simpa using h)
theorem str_some {s : ByteArray} (h : 0 < s.size) : s.toList.isEmpty = false := by
  rw [ByteArray.toList_eq]
  cases h2 : s.data.toList with
  | nil => have : s.data.toList.length = s.size := by simp
           rw [h2] at this; simp at this; omega
  | cons a t => rfl
def inOne (hi n : Int) : Bool := decide (0 ≤ n) && decide (n ≤ hi)
def inAll (hi : Int) (l : List Int) : Bool := l.all (inOne hi)
theorem all_take {α : Type} (p : α → Bool) : ∀ (l : List α) (j : Nat) (h : j < l.length), p l[j] = false → l.all p = false
  | x :: l, 0, _, e => by simp only [List.getElem_cons_zero] at e; simp [e]
  | x :: l, j + 1, h, e => by
    have := all_take p l j (by simpa using h) (by simpa using e)
    simp only [List.all_cons, this, Bool.and_false]
theorem all_upto {α : Type} (p : α → Bool) (l : List α) (h : ∀ k (hk : k < l.length), p l[k] = true) : l.all p = true := by
  rw [List.all_eq_true]
  intro x hx
  obtain ⟨k, hk, rfl⟩ := List.getElem_of_mem hx
  exact h k hk
theorem rdI_at {c : Addr → Option Value} {a : Option Addr} {n cap : Nat} {l : List Int} (h : RdI c (.slice a n cap) l) {j : Nat} (hj : j < l.length) : ∃ b o, a = some ⟨b, o, none⟩ ∧ c ⟨b, o + j, none⟩ = some (.int .i64 l[j]) := by
  have e : n = l.length := by
    obtain ⟨a', cap', e1, _⟩ := h
    simp only [Value.slice.injEq] at e1; exact e1.2.1
  subst e
  obtain ⟨b, o, rfl, hc⟩ := h.open (by omega)
  exact ⟨b, o, rfl, hc j _ (by simp [hj])⟩
theorem rdS_at {c : Addr → Option Value} {a : Option Addr} {n cap : Nat} {l : List ByteArray} (h : RdS c (.slice a n cap) l) {j : Nat} (hj : j < l.length) : ∃ b o, a = some ⟨b, o, none⟩ ∧ c ⟨b, o + j, none⟩ = some (.string l[j]) := by
  have e : n = l.length := by
    obtain ⟨a', cap', e1, _⟩ := h
    simp only [Value.slice.injEq] at e1; exact e1.2.1
  subst e
  obtain ⟨b, o, rfl, hc⟩ := h.open (by omega)
  exact ⟨b, o, rfl, hc j _ (by simp [hj])⟩

theorem in1_spec {w : World} {R : Snap} {L : Asrt} {hi n : Int} {b : Nat} {fr : Nat × Nat} (H : Holds w R L) (hb : R.blk b = some (.cells #[.int .i64 hi] tInt fr)) :
    Calls Try.prog 185 #[.int .i64 n, .pointer (some ⟨b, 0, none⟩)] w fun e w' => e = .returned (.bool (!inOne hi n)) ∧ Holds w' R L := by
  obtain ⟨l1, n1, c1⟩ := Holds.frzFacts (H) hb
  by_cases h0 : n < 0
  · have e1 : (!inOne hi n) = true := by simp [inOne]; omega
    rw [e1]
    have t0 : decide (n < 0) = true := by simpa using h0
    go_enter Try.func185, Try.ntmps185
    go_wp2_with fail
    go_ret
    exact ⟨rfl, H⟩
  · have t0 : decide (n < 0) = false := by simpa using h0
    have e1 : (!inOne hi n) = decide (hi < n) := by
      by_cases h : hi < n
      · simp only [inOne]; rw [Bool.eq_iff_iff]; simp; omega
      · simp only [inOne]; rw [Bool.eq_iff_iff]; simp; omega
    rw [e1]
    go_enter Try.func185, Try.ntmps185
    go_wp2_with fail
    go_ret
    exact ⟨rfl, H⟩
theorem idxInt_spec {w : World} {R : Snap} {L : Asrt} {v : Value} {l : List Int} {hi : Int} {b : Nat} {fr : Nat × Nat} (H : Holds w R L) (hr : ∀ w', Holds w' R L → RdI w'.cell? v l) (hl : l.length ≤ 1000000) (hb : R.blk b = some (.cells #[.int .i64 hi] tInt fr)) :
    Calls Try.prog 196 #[v, .func (.func 185) #[] #[.pointer (some ⟨b, 0, none⟩)]] w fun e w' => ∃ k, e = .returned (.int .i64 k) ∧ decide (0 ≤ k) = !inAll hi l ∧ Holds w' R L := by
  obtain ⟨a, c, rfl⟩ := (hr w H).form
  obtain ⟨n, hn⟩ : ∃ n, n = l.length := ⟨_, rfl⟩
  have HR := Hid.mk' hr
  have HN := Hid.mk' hn
  rw [← hn] at hl ⊢
  clear hn hr
  go_enter Try.func196, Try.ntmps196
  go_wp2_with fail
  go_loopw [8] (fun i wx => ∃ j : Nat, i = .int .i64 j ∧ j ≤ n ∧ Hid (∀ k (h : k < l.length), k < j → inOne hi l[k] = true) ∧ Holds wx R L) (fun i _ => n - (intOf i).toNat)
  case atStart => exact ⟨0, rfl, Nat.zero_le _, Hid.mk' (fun k _ h => absurd h (Nat.not_lt_zero k)), H⟩
  case round =>
    clear H
    obtain ⟨j, rfl, hj, hA, H1⟩ := hrel
    by_cases hlt : j < n
    · have hjl : j < l.length := by rw [← HN.out]; exact hlt
      obtain ⟨b1, o1, ha, hc⟩ := rdI_at (HR.out _ H1) hjl
      subst ha
      obtain ⟨x, hx⟩ : ∃ x, x = l[j] := ⟨_, rfl⟩
      rw [← hx] at hc
      have HX := Hid.mk' hx
      clear hx
      go_wp2_with fail
      refine (in1_spec (n := x) H1 hb).mono ?_
      rintro e w2 ⟨rfl, H2⟩
      by_cases hok : inOne hi x = true
      · rw [hok]
        go_wp2_with fail
        go_roundw
        case rel =>
          refine ⟨j + 1, by go_num, hlt, Hid.mk' (fun k h1 h2 => ?_), H2⟩
          rcases Nat.lt_or_ge k j with h3 | h3
          · exact hA.out k h1 h3
          · obtain rfl : k = j := by omega
            rw [← HX.out]; exact hok
        case measure => simp [intOf]; omega
      · rw [Bool.not_eq_true] at hok
        rw [hok]
        go_wp2_with fail
        go_ret
        refine ⟨_, rfl, ?_, H2⟩
        rw [inAll, all_take (inOne hi) l j hjl (by rw [← HX.out]; exact hok)]
        simp
    · go_wp2_with fail
      go_ret
      refine ⟨_, rfl, ?_, H1⟩
      rw [inAll, all_upto (inOne hi) l (fun k hk => hA.out k hk (by have := HN.out; omega))]
      rfl
theorem hasInt_spec {w : World} {R : Snap} {L : Asrt} {v : Value} {l : List Int} {hi : Int} {b : Nat} {fr : Nat × Nat} (H : Holds w R L) (hr : ∀ w', Holds w' R L → RdI w'.cell? v l) (hl : l.length ≤ 1000000) (hb : R.blk b = some (.cells #[.int .i64 hi] tInt fr)) :
    Calls Try.prog 184 #[v, .func (.func 185) #[] #[.pointer (some ⟨b, 0, none⟩)]] w fun e w' => e = .returned (.bool (!inAll hi l)) ∧ Holds w' R L := by
  obtain ⟨a, c, rfl⟩ := (hr w H).form
  go_enter Try.func184, Try.ntmps184
  go_wp2_with fail
  refine (idxInt_spec H hr hl hb).mono ?_
  rintro e w2 ⟨k, rfl, hk, H2⟩
  go_wp2_with fail
  go_ret
  exact ⟨rfl, H2⟩
theorem in_spec {w : World} {R : Snap} {L : Asrt} {v : Value} {l : List Int} {hi : Int} (H : Holds w R L) (hr : ∀ w', Holds w' R L → RdI w'.cell? v l) (hl : l.length ≤ 1000000) :
    Calls Try.prog 119 #[.int .i64 hi, v] w fun e w' => e = .returned (.bool (inAll hi l)) ∧ Holds w' R L := by
  obtain ⟨a, c, rfl⟩ := (hr w H).form
  obtain ⟨R1, le1, H1, hb⟩ := H.allocR (.cells #[.int .i64 hi] tInt (0, 0))
  go_enter Try.func119, Try.ntmps119
  go_wp2_with fail
  refine (hasInt_spec H1 (fun w' h => hr w' (h.weaken le1)) hl hb).mono ?_
  rintro e w2 ⟨rfl, H2⟩
  go_wp2_with fail
  go_ret
  exact ⟨by simp, H2.weaken le1⟩

theorem bad1_spec {w : World} {R : Snap} {L : Asrt} {s : ByteArray} (H : Holds w R L) (hs : s.size ≤ maxLen) :
    Calls Try.prog 121 #[.string s] w fun e w' => e = .returned (.bool (!nameOk s)) ∧ Holds w' R L := by
  have hR := right_spec hs
  go_enter Try.func121, Try.ntmps121
  go_wp2_with fail
  refine (hR _).mono ?_
  rintro e w2 ⟨rfl, rfl⟩
  go_wp2_with fail
  go_ret
  exact ⟨rfl, H⟩
theorem idxStr_spec {w : World} {R : Snap} {L : Asrt} {v : Value} {l : List ByteArray} (H : Holds w R L) (hr : ∀ w', Holds w' R L → RdS w'.cell? v l) (hl : l.length ≤ 1000000) (hs : ∀ s ∈ l, s.size ≤ maxLen) :
    Calls Try.prog 186 #[v, .func (.func 121) #[] #[]] w fun e w' => ∃ k, e = .returned (.int .i64 k) ∧ decide (0 ≤ k) = !l.all nameOk ∧ Holds w' R L := by
  obtain ⟨a, c, rfl⟩ := (hr w H).form
  obtain ⟨n, hn⟩ : ∃ n, n = l.length := ⟨_, rfl⟩
  have HR := Hid.mk' hr
  have HN := Hid.mk' hn
  rw [← hn] at hl ⊢
  clear hn hr
  go_enter Try.func186, Try.ntmps186
  go_wp2_with fail
  go_loopw [8] (fun i wx => ∃ j : Nat, i = .int .i64 j ∧ j ≤ n ∧ Hid (∀ k (h : k < l.length), k < j → nameOk l[k] = true) ∧ Holds wx R L) (fun i _ => n - (intOf i).toNat)
  case atStart => exact ⟨0, rfl, Nat.zero_le _, Hid.mk' (fun k _ h => absurd h (Nat.not_lt_zero k)), H⟩
  case round =>
    clear H
    obtain ⟨j, rfl, hj, hA, H1⟩ := hrel
    by_cases hlt : j < n
    · have hjl : j < l.length := by rw [← HN.out]; exact hlt
      obtain ⟨b1, o1, ha, hc⟩ := rdS_at (HR.out _ H1) hjl
      subst ha
      have hsx := hs l[j] (List.getElem_mem hjl)
      obtain ⟨x, hx⟩ : ∃ x, x = l[j] := ⟨_, rfl⟩
      rw [← hx] at hc hsx
      have HX := Hid.mk' hx
      clear hx
      go_wp2_with fail
      refine (bad1_spec H1 hsx).mono ?_
      rintro e w2 ⟨rfl, H2⟩
      by_cases hok : nameOk x = true
      · rw [hok]
        go_wp2_with fail
        go_roundw
        case rel =>
          refine ⟨j + 1, by go_num, hlt, Hid.mk' (fun k h1 h2 => ?_), H2⟩
          rcases Nat.lt_or_ge k j with h3 | h3
          · exact hA.out k h1 h3
          · obtain rfl : k = j := by omega
            rw [← HX.out]; exact hok
        case measure => simp [intOf]; omega
      · rw [Bool.not_eq_true] at hok
        rw [hok]
        go_wp2_with fail
        go_ret
        refine ⟨_, rfl, ?_, H2⟩
        rw [all_take nameOk l j hjl (by rw [← HX.out]; exact hok)]
        simp
    · go_wp2_with fail
      go_ret
      refine ⟨_, rfl, ?_, H1⟩
      rw [all_upto nameOk l (fun k hk => hA.out k hk (by have := HN.out; omega))]
      rfl
theorem hasStr_spec {w : World} {R : Snap} {L : Asrt} {v : Value} {l : List ByteArray} (H : Holds w R L) (hr : ∀ w', Holds w' R L → RdS w'.cell? v l) (hl : l.length ≤ 1000000) (hs : ∀ s ∈ l, s.size ≤ maxLen) :
    Calls Try.prog 120 #[v, .func (.func 121) #[] #[]] w fun e w' => e = .returned (.bool (!l.all nameOk)) ∧ Holds w' R L := by
  obtain ⟨a, c, rfl⟩ := (hr w H).form
  go_enter Try.func120, Try.ntmps120
  go_wp2_with fail
  refine (idxStr_spec H hr hl hs).mono ?_
  rintro e w2 ⟨k, rfl, hk, H2⟩
  go_wp2_with fail
  go_ret
  exact ⟨rfl, H2⟩
end Sh
