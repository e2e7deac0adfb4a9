/- JrnMath EntRPut JrnRef2: joined texts, each with its own sentence below. -/
import Derived.Test.YtmogagcffebbaaaJd18
import Derived.Test.YtmogagcffebbaaaJd17
import Derived.Test.YtmogagcffebbaaaJd13
import Derived.Test.YtmogagcffebbaaaJd8
/- The journal: what a Recover makes of what a failed Do, or a failed Recover, has left. -/
set_option linter.unusedVariables false
set_option linter.unusedSimpArgs false
namespace Sh
open Go Go.RowKit Go.Proofs
attribute [local go_sem ↓] Go.wp_at_zero Go.wp_at_succ
set_option maxHeartbeats 1000000
set_option maxRecDepth 100000

abbrev Z64 : List UInt8 := List.replicate 64 0
theorem pad64_nil : pad64 [] = Z64 := by decide
theorem pad64_id {b : List UInt8} (h : b.length = 64) : pad64 b = b := by
  rw [pad64, h, List.take_of_length_le (by omega), List.drop_of_length_le (by simp), List.append_nil]
theorem clearB_iff {b : List UInt8} : clearB b = true ↔ b = Z64 := by rw [clearB, decide_eq_true_eq]
/-- Writes, all of them. -/
def apW (S : List (List UInt8)) (l : List En) : List (List UInt8) := l.foldl (fun S c => S.set c.1.toNat (pad64 c.2)) S
theorem apW_cons (S : List (List UInt8)) (c : En) (l : List En) : apW S (c :: l) = apW (S.set c.1.toNat (pad64 c.2)) l := rfl
theorem apW_nil (S : List (List UInt8)) : apW S [] = S := rfl
theorem apW_append (S : List (List UInt8)) (l m : List En) : apW S (l ++ m) = apW (apW S l) m := List.foldl_append ..
theorem apW_len (l : List En) : ∀ S : List (List UInt8), (apW S l).length = S.length := by
  induction l with
  | nil => intro S; rfl
  | cons c l ih => intro S; rw [apW_cons, ih, List.length_set]
theorem runW_true (l : List En) : ∀ st : DSt, (runW st l).1 = true → (runW st l).2.1 = apW st.1 l := by
  induction l with
  | nil => intro st _; rfl
  | cons c l ih =>
    intro st h
    rw [runW] at h ⊢
    by_cases hc : wrOk st c = true
    · rw [if_pos hc] at h ⊢
      rw [ih _ h, apW_cons]
      exact congrArg (fun S => apW S l) (wS_yes hc)
    · rw [if_neg hc] at h; cases h
/-- What is written is the writes' beginning. -/
theorem runW_pre (l : List En) : ∀ st : DSt, ∃ r, r ≤ l.length ∧ (runW st l).2.1 = apW st.1 (l.take r) ∧ ((runW st l).1 = true → r = l.length) := by
  induction l with
  | nil => intro st; exact ⟨0, Nat.le_refl _, rfl, fun _ => rfl⟩
  | cons c l ih =>
    intro st
    rw [runW]
    by_cases hc : wrOk st c = true
    · rw [if_pos hc]
      obtain ⟨r, h1, h2, h3⟩ := ih (wrSt st c)
      refine ⟨r + 1, by simp; exact h1, ?_, fun h => by simp [h3 h]⟩
      rw [h2, List.take_succ_cons, apW_cons]
      exact congrArg (fun S => apW S _) (wS_yes hc)
    · rw [if_neg hc]
      exact ⟨0, Nat.zero_le _, wS_no (by simpa [wrOk] using hc), fun h => by cases h⟩
theorem runW_full (l : List En) : ∀ S : List (List UInt8), (∀ c ∈ l, wFit S.length c.1 c.2 = true) → runW (S, -1, false) l = (true, (apW S l, -1, false)) := by
  induction l with
  | nil => intro S _; rfl
  | cons c l ih =>
    intro S h
    have hf := h c List.mem_cons_self
    have hc : wrOk (S, -1, false) c = true := by rw [wrOk, wOk, hf]; rfl
    have hs : wrSt (S, -1, false) c = (S.set c.1.toNat (pad64 c.2), -1, false) := by
      unfold wrSt
      rw [show wS S (-1) false c.1 c.2 = S.set c.1.toNat (pad64 c.2) from wS_yes hc, wLeft, wDead, hf]
      rfl
    rw [runW, if_pos hc, hs, ih _ (fun c' hc' => by rw [List.length_set]; exact h c' (List.mem_cons_of_mem _ hc')), apW_cons]
theorem apW_miss {i : Nat} (l : List En) : ∀ S : List (List UInt8), (∀ c ∈ l, c.1.toNat ≠ i) → (apW S l)[i]? = S[i]? := by
  induction l with
  | nil => intro S _; rfl
  | cons c l ih =>
    intro S h
    rw [apW_cons, ih _ (fun c' hc' => h c' (List.mem_cons_of_mem _ hc')), List.getElem?_set_ne (h c List.mem_cons_self)]
theorem apW_keep {i : Nat} (l : List En) : ∀ S : List (List UInt8), (∀ c ∈ l, c.2 = []) → S[i]? = some Z64 → (apW S l)[i]? = some Z64 := by
  induction l with
  | nil => intro S _ h; exact h
  | cons c l ih =>
    intro S h hz
    rw [apW_cons]
    refine ih _ (fun c' hc' => h c' (List.mem_cons_of_mem _ hc')) ?_
    rw [h c List.mem_cons_self, pad64_nil, List.getElem?_set]
    split
    · rw [if_pos]
      rename_i he
      rw [he]
      exact (List.getElem?_eq_some_iff.1 hz).1
    · exact hz
theorem apW_hit {i : Nat} (l : List En) : ∀ S : List (List UInt8), (∀ c ∈ l, c.2 = []) → (∃ c ∈ l, c.1.toNat = i) → i < S.length → (apW S l)[i]? = some Z64 := by
  induction l with
  | nil => intro S _ h; obtain ⟨c, hc, _⟩ := h; cases hc
  | cons c l ih =>
    intro S h hx hi
    rw [apW_cons]
    by_cases hci : c.1.toNat = i
    · refine apW_keep l _ (fun c' hc' => h c' (List.mem_cons_of_mem _ hc')) ?_
      rw [h c List.mem_cons_self, pad64_nil, hci, List.getElem?_set_self hi]
    · refine ih _ (fun c' hc' => h c' (List.mem_cons_of_mem _ hc')) ?_ (by rw [List.length_set]; exact hi)
      obtain ⟨d, hd, hdi⟩ := hx
      rcases List.mem_cons.1 hd with rfl | hd
      · exact absurd hdi hci
      · exact ⟨d, hd, hdi⟩
theorem apW_absorb {i : Nat} {x : List UInt8} (l : List En) : ∀ S : List (List UInt8), (∃ c ∈ l, c.1.toNat = i) → apW (S.set i x) l = apW S l := by
  induction l with
  | nil => intro S h; obtain ⟨c, hc, _⟩ := h; cases hc
  | cons c l ih =>
    intro S h
    rw [apW_cons, apW_cons]
    by_cases hci : c.1.toNat = i
    · rw [hci, List.set_set]
    · rw [List.set_comm _ _ (Ne.symm hci)]
      refine ih _ ?_
      obtain ⟨d, hd, hdi⟩ := h
      rcases List.mem_cons.1 hd with rfl | hd
      · exact absurd hdi hci
      · exact ⟨d, hd, hdi⟩
theorem apW_again {l : List En} (m : List En) : ∀ S : List (List UInt8), (∀ c ∈ m, c ∈ l) → apW (apW S m) l = apW S l := by
  induction m with
  | nil => intro S _; rfl
  | cons c m ih =>
    intro S h
    rw [apW_cons, ih _ (fun c' hc' => h c' (List.mem_cons_of_mem _ hc')), apW_absorb l S ⟨c, h c List.mem_cons_self, rfl⟩]
/-- The same outside of the journal. -/
def OutEq (S T : List (List UInt8)) : Prop := ∀ i, (i = 0 ∨ 34 ≤ i) → S[i]? = T[i]?
theorem OutEq.refl (S : List (List UInt8)) : OutEq S S := fun _ _ => rfl
theorem OutEq.trans {S T U : List (List UInt8)} (h : OutEq S T) (k : OutEq T U) : OutEq S U := fun i hi => (h i hi).trans (k i hi)
theorem OutEq.ap (l : List En) : ∀ {S T : List (List UInt8)}, OutEq S T → S.length = T.length → OutEq (apW S l) (apW T l) := by
  induction l with
  | nil => intro S T h _; exact h
  | cons c l ih =>
    intro S T h hl
    rw [apW_cons, apW_cons]
    refine ih (fun i hi => ?_) (by rw [List.length_set, List.length_set, hl])
    rw [List.getElem?_set, List.getElem?_set, hl, h i hi]
def inJ (c : En) : Prop := 1 ≤ c.1.toNat ∧ c.1.toNat ≤ 33
def outJ (c : En) : Prop := c.1.toNat = 0 ∨ 34 ≤ c.1.toNat
theorem OutEq.inj {l : List En} {S : List (List UInt8)} (h : ∀ c ∈ l, inJ c) : OutEq (apW S l) S := fun i hi => apW_miss l S fun c hc => by have := h c hc; unfold inJ at this; omega
theorem jS_get (S : List (List UInt8)) (i : Nat) : (jS S)[i]? = if i < 33 then S[1 + i]? else none := by
  rw [jS, List.getElem?_take]
  split
  · rw [List.getElem?_drop]
  · rfl
theorem jS_out {l : List En} {S : List (List UInt8)} (h : ∀ c ∈ l, outJ c) : jS (apW S l) = jS S := by
  apply List.ext_getElem?
  intro i
  rw [jS_get, jS_get]
  split
  · exact apW_miss l S fun c hc => by have := h c hc; unfold outJ at this; omega
  · rfl
theorem clrN_mem {xs : List (List UInt8)} {j : Nat} {c : En} : c ∈ clrN xs j ↔ ∃ i, i < j ∧ clearB (xs.getD i []) = false ∧ c = (((1 + i : Nat) : Int), []) := by
  rw [clrN, List.mem_flatMap]
  constructor
  · rintro ⟨i, hi, hc⟩
    split at hc
    · cases hc
    · rename_i hb
      exact ⟨i, List.mem_range.1 hi, by simpa using hb, List.mem_singleton.1 hc⟩
  · rintro ⟨i, hi, hb, rfl⟩
    exact ⟨i, List.mem_range.2 hi, by rw [if_neg (by rw [hb]; decide)]; exact List.mem_singleton.2 rfl⟩
theorem clrN_in {S : List (List UInt8)} : ∀ c ∈ clrN (jS S) (jS S).length, inJ c ∧ c.2 = [] ∧ c.1 < (S.length : Int) ∧ 0 ≤ c.1 := by
  intro c hc
  obtain ⟨i, hi, _, rfl⟩ := clrN_mem.1 hc
  rw [jS_len] at hi
  unfold inJ
  refine ⟨?_, rfl, ?_, ?_⟩ <;> simp <;> omega
theorem cleanS_iff {S : List (List UInt8)} : cleanS S = true ↔ ∀ i, i < 33 → 1 + i < S.length → S[1 + i]? = some Z64 := by
  rw [cleanS, List.all_eq_true]
  constructor
  · intro h i h1 h2
    have hi : i < (jS S).length := by rw [jS_len]; omega
    have h3 := clearB_iff.1 (h _ (List.getElem_mem hi))
    have h4 := jS_get S i
    rw [if_pos h1, List.getElem?_eq_getElem hi, h3] at h4
    exact h4.symm
  · intro h x hx
    obtain ⟨i, hi, rfl⟩ := List.mem_iff_getElem.1 hx
    have hi2 := hi
    rw [jS_len] at hi2
    have h4 := jS_get S i
    rw [if_pos (by omega), List.getElem?_eq_getElem hi, h i (by omega) (by omega)] at h4
    exact clearB_iff.2 (Option.some.inj h4)
/-- Once all that is not clear has been made clear, all is. -/
theorem clean_ap {S : List (List UInt8)} : cleanS (apW S (clrN (jS S) (jS S).length)) = true := by
  rw [cleanS_iff]
  intro i h1 h2
  rw [apW_len] at h2
  have hcl : ∀ c ∈ clrN (jS S) (jS S).length, c.2 = [] := fun c hc => (clrN_in c hc).2.1
  have hi : i < (jS S).length := by rw [jS_len]; omega
  have h4 := jS_get S i
  rw [if_pos h1, List.getElem?_eq_getElem hi] at h4
  by_cases hb : clearB (jS S)[i] = true
  · refine apW_keep _ _ hcl ?_
    rw [← h4, clearB_iff.1 hb]
  · refine apW_hit _ _ hcl ⟨(((1 + i : Nat) : Int), []), clrN_mem.2 ⟨i, hi, ?_, rfl⟩, by simp; omega⟩ h2
    rw [List.getD_eq_getElem?_getD, List.getElem?_eq_getElem hi]
    simpa using hb
theorem placeC_out {c : En} (h : placeC c.1 = true) : outJ c := by
  unfold placeC at h
  simp at h
  unfold outJ
  omega
theorem checkC_out {E : List En} (h : checkC E = 0) : ∀ c ∈ E, outJ c := fun c hc => placeC_out (List.all_eq_true.1 (checkC_ok h).1 c hc)
/-- A Recover that ends well leaves a clean journal. -/
theorem again_clean {st : DSt} {E : List En} {ok : Bool} (hG : GotC (jS st.1) E ok) (h : (runW st (againW st.1 E)).1 = true) : cleanS (runW st (againW st.1 E)).2.1 = true := by
  rw [runW_true _ _ h, againW, apW_append]
  have hE : ∀ c ∈ E, outJ c := by
    rcases hG with ⟨_, h1, _⟩ | ⟨_, h1, _⟩
    · exact checkC_out h1
    · rw [h1]; intro c hc; cases hc
  have hX : ∀ c ∈ (if thereC st.1.length E = true then E else []), outJ c := by
    split
    · exact hE
    · intro c hc; cases hc
  rw [← jS_out hX]
  exact clean_ap
theorem open_Z : openOk Z64 = false := by rw [openOk]; exact good_zero
/-- Behind a clear head there is nothing. -/
theorem got_clear {S : List (List UInt8)} {E : List En} {ok : Bool} (hz : S[1]? = some Z64) (hG : GotC (jS S) E ok) : E = [] := by
  rcases hG with ⟨_, h1, h2⟩ | ⟨_, h1, _⟩
  · obtain ⟨s0, rest, e1, h3, _⟩ := putC_says h1 h2
    have h4 := jS_get S 0
    rw [if_pos (by decide), hz, e1, List.getElem?_cons_zero] at h4
    rw [Option.some.inj h4, open_Z] at h3
    cases h3
  · exact h1

/-! ### Wherever the power fails -/
/-- What may be found: nothing begun or all done, or all told in the journal. -/
def InvJ (S0 : List (List UInt8)) (E : List En) (S : List (List UInt8)) : Prop :=
  S.length = S0.length ∧ (∀ s ∈ S, s.length = 64) ∧
    ((S[1]? = some Z64 ∧ (OutEq S S0 ∨ OutEq S (apW S0 E))) ∨ (putC E <+: jS S ∧ OutEq (apW S E) (apW S0 E)))
/-- All is done. -/
def InvA (S0 : List (List UInt8)) (E : List En) (S : List (List UInt8)) : Prop := S[1]? = some Z64 ∧ OutEq S (apW S0 E)
theorem bodW_mem {s : List (List UInt8)} {j : Nat} {c : En} (h : c ∈ bodW s j) : ∃ i, i < j ∧ c = (((2 + i : Nat) : Int), s.getD (1 + i) []) := by
  rw [bodW, List.mem_map] at h
  obtain ⟨i, hi, rfl⟩ := h
  exact ⟨i, List.mem_range.1 hi, rfl⟩
theorem clrW_mem {j : Nat} {c : En} (h : c ∈ clrW j) : ∃ i, i < j ∧ c = (((2 + i : Nat) : Int), []) := by
  rw [clrW, List.mem_map] at h
  obtain ⟨i, hi, rfl⟩ := h
  exact ⟨i, List.mem_range.1 hi, rfl⟩
theorem putC_64 {E : List En} : ∀ s ∈ putC E, s.length = 64 := by
  intro s hs
  rw [putC, List.mem_cons, List.mem_map] at hs
  rcases hs with rfl | ⟨i, _, rfl⟩
  · exact sealS_len (by rw [headC_len]; decide)
  · exact sealS_len (bodyC_len _ _)
theorem putC_bd {E : List En} (h : checkC E = 0) : 1 ≤ (putC E).length ∧ (putC E).length ≤ 33 := by
  have h1 := (checkC_ok h).2.2.2
  rw [putC_len, textC_len]
  unfold partsN
  omega
theorem bodW_get {s : List (List UInt8)} {S : List (List UInt8)} (hs : ∀ x ∈ s, x.length = 64) : ∀ (j : Nat), 2 + j ≤ S.length → 1 + j ≤ s.length → ∀ i, i < j → (apW S (bodW s j))[2 + i]? = s[1 + i]? := by
  intro j
  induction j with
  | zero => intro _ _ i hi; omega
  | succ j ih =>
    intro h1 h2 i hi
    rw [bodW_succ, apW_append, apW_cons, apW_nil]
    by_cases he : i = j
    · subst he
      rw [Int.toNat_natCast, List.getElem?_set_self (by rw [apW_len]; omega), List.getD_eq_getElem?_getD, List.getElem?_eq_getElem (by omega)]
      rw [Option.getD_some, pad64_id (hs _ (List.getElem_mem _))]
    · rw [Int.toNat_natCast, List.getElem?_set_ne (by omega)]
      exact ih (by omega) (by omega) i (by omega)
/-- What Do writes ahead of the changes tells them. -/
theorem told_put {E : List En} {S : List (List UInt8)} (h : checkC E = 0) (hS : 34 ≤ S.length) : putC E <+: jS (apW S (bodW (putC E) ((putC E).length - 1) ++ [((1 : Int), (putC E).getD 0 [])])) := by
  have h64 := putC_64 (E := E)
  obtain ⟨hl1, hl2⟩ := putC_bd h
  generalize putC E = s at *
  rw [List.prefix_iff_getElem?]
  intro i hi
  rw [jS_get, if_pos (by omega), apW_append, apW_cons, apW_nil]
  rcases Nat.eq_zero_or_pos i with rfl | hi0
  · rw [show ((1 : Int)).toNat = 1 + 0 from rfl, List.getElem?_set_self (by rw [apW_len]; omega), List.getD_eq_getElem?_getD, List.getElem?_eq_getElem (by omega), Option.getD_some, pad64_id (h64 _ (List.getElem_mem _))]
  · rw [show ((1 : Int)).toNat = 1 from rfl, List.getElem?_set_ne (by omega)]
    have := bodW_get (S := S) h64 (s.length - 1) (by omega) (by omega) (i - 1) (by omega)
    rw [show 2 + (i - 1) = 1 + i by omega, show 1 + (i - 1) = i by omega] at this
    rw [this, List.getElem?_eq_getElem hi]
theorem apW_64 (l : List En) : ∀ S : List (List UInt8), (∀ s ∈ S, s.length = 64) → (∀ c ∈ l, c.2.length ≤ 64) → ∀ s ∈ apW S l, s.length = 64 := by
  induction l with
  | nil => intro S h _; exact h
  | cons c l ih =>
    intro S h k
    rw [apW_cons]
    exact ih _ (all_set h (pad64_len (k c List.mem_cons_self))) fun c' hc' => k c' (List.mem_cons_of_mem _ hc')
theorem take_append3 {α : Type} (r : Nat) (A B : List α) : (r ≤ A.length ∧ (A ++ B).take r = A.take r) ∨ (A.length < r ∧ (A ++ B).take r = A ++ B.take (r - A.length)) := by
  rcases Nat.lt_or_ge A.length r with h | h
  · exact .inr ⟨h, by rw [List.take_append, List.take_of_length_le (by omega)]⟩
  · exact .inl ⟨h, List.take_append_of_le_length h⟩
theorem do_inv {st : DSt} {E : List En} (hS : 34 ≤ st.1.length) (h64 : ∀ s ∈ st.1, s.length = 64) (hb : Bd st) (hz : st.1[1]? = some Z64) (hE : checkC E = 0) :
    InvJ st.1 E (runW st (doW E)).2.1 ∧ ((runW st (doW E)).1 = true → InvA st.1 E (runW st (doW E)).2.1) := by
  obtain ⟨k1, k2, k3⟩ := runW_inv (l := doW E) hb h64
  obtain ⟨r, hr, hw, hfull⟩ := runW_pre (doW E) st
  have hlen := k3
  have hall := k2
  unfold S64 at hall
  generalize (runW st (doW E)).1 = ok at *
  generalize (runW st (doW E)).2.1 = T at *
  clear k1 k2 k3
  obtain ⟨S, l0, d0⟩ := st
  simp only at *
  by_cases hE0 : E = []
  · subst hE0
    rw [doW, if_pos rfl, List.take_nil, apW_nil] at hw
    rw [hw]
    exact ⟨⟨rfl, h64, .inl ⟨hz, .inl (OutEq.refl _)⟩⟩, fun _ => ⟨hz, OutEq.refl _⟩⟩
  obtain ⟨hl1, hl2⟩ := putC_bd hE
  have hout := checkC_out hE
  have htold := told_put hE hS
  rw [doW, if_neg hE0] at hw hr hfull
  generalize hBB : bodW (putC E) ((putC E).length - 1) = B at *
  generalize hCC : clrW ((putC E).length - 1) = C at *
  have hB : ∀ c ∈ B, inJ c ∧ c.1.toNat ≠ 1 := by
    intro c hc
    rw [← hBB] at hc
    obtain ⟨i, hi, rfl⟩ := bodW_mem hc
    unfold inJ
    refine ⟨?_, ?_⟩ <;> simp <;> omega
  have hC : ∀ c ∈ C, inJ c ∧ c.2 = [] := by
    intro c hc
    rw [← hCC] at hc
    obtain ⟨i, hi, rfl⟩ := clrW_mem hc
    unfold inJ
    refine ⟨?_, rfl⟩
    simp; omega
  rcases take_append3 r B ([((1 : Int), (putC E).getD 0 [])] ++ (E ++ ([((1 : Int), [])] ++ C))) with ⟨h1, h2⟩ | ⟨h1, h2⟩
  · rw [h2] at hw
    refine ⟨⟨hlen, hall, .inl ⟨?_, .inl ?_⟩⟩, fun h => ?_⟩
    · rw [hw, apW_miss _ _ (fun c hc => (hB c (List.mem_of_mem_take hc)).2), hz]
    · rw [hw]
      exact OutEq.inj fun c hc => (hB c (List.mem_of_mem_take hc)).1
    · have := hfull h
      simp at this
      omega
  · rw [h2] at hw
    obtain ⟨r1, hr1⟩ : ∃ r1, r - B.length = 1 + r1 := ⟨r - B.length - 1, by omega⟩
    rw [hr1, show 1 + r1 = ([((1 : Int), (putC E).getD 0 [])] : List En).length + r1 from rfl, List.take_length_add_append, ← List.append_assoc, apW_append] at hw
    obtain ⟨S1, hS1⟩ : ∃ S1, S1 = apW S (B ++ [((1 : Int), (putC E).getD 0 [])]) := ⟨_, rfl⟩
    rw [← hS1] at hw htold
    have hS1l : S1.length = S.length := by rw [hS1, apW_len]
    have hS1o : OutEq S1 S := by
      rw [hS1]
      refine OutEq.inj fun c hc => ?_
      rcases List.mem_append.1 hc with hc | hc
      · exact (hB c hc).1
      · rw [List.mem_singleton.1 hc]
        exact ⟨Nat.le_refl 1, (by decide : 1 ≤ 33)⟩
    rcases take_append3 r1 E ([((1 : Int), [])] ++ C) with ⟨h3, h4⟩ | ⟨h3, h4⟩
    · rw [h4] at hw
      refine ⟨⟨hlen, hall, .inr ⟨?_, ?_⟩⟩, fun h => ?_⟩
      · rw [hw, jS_out fun c hc => hout c (List.mem_of_mem_take hc)]
        exact htold
      · rw [hw, apW_again _ _ fun c hc => List.mem_of_mem_take hc]
        exact hS1o.ap E hS1l
      · have := hfull h
        simp at this
        omega
    · rw [h4, apW_append] at hw
      obtain ⟨r2, hr2⟩ : ∃ r2, r1 - E.length = 1 + r2 := ⟨r1 - E.length - 1, by omega⟩
      rw [hr2, show 1 + r2 = ([((1 : Int), [])] : List En).length + r2 from rfl, List.take_length_add_append] at hw
      have hA : InvA S E T := by
        constructor
        · rw [hw]
          refine apW_hit _ _ ?_ ⟨((1 : Int), []), List.mem_append_left _ (List.mem_singleton.2 rfl), rfl⟩ (by rw [apW_len, hS1l]; omega)
          intro c hc
          rcases List.mem_append.1 hc with hc | hc
          · rw [List.mem_singleton.1 hc]
          · exact (hC c (List.mem_of_mem_take hc)).2
        · rw [hw]
          refine (OutEq.inj fun c hc => ?_).trans (hS1o.ap E hS1l)
          rcases List.mem_append.1 hc with hc | hc
          · rw [List.mem_singleton.1 hc]
            unfold inJ
            exact ⟨by decide, by decide⟩
          · exact (hC c (List.mem_of_mem_take hc)).1
      exact ⟨⟨hlen, hall, .inl ⟨hA.1, .inr hA.2⟩⟩, fun _ => hA⟩
/-- What Recover writes. -/
theorem rec_inv {S0 : List (List UInt8)} {st : DSt} {E F : List En} {ok : Bool} (hS0 : 34 ≤ S0.length) (hE : checkC E = 0) (hth : thereC S0.length E = true) (hI : InvJ S0 E st.1) (hb : Bd st) (hG : GotC (jS st.1) F ok) :
    InvJ S0 E (runW st (againW st.1 F)).2.1 ∧ (InvA S0 E st.1 → InvA S0 E (runW st (againW st.1 F)).2.1) ∧ (∀ c ∈ againW st.1 F, wFit st.1.length c.1 c.2 = true) := by
  obtain ⟨hlen0, h64, hD⟩ := hI
  obtain ⟨k1, k2, k3⟩ := runW_inv (l := againW st.1 F) hb h64
  obtain ⟨r, hr, hw, hfull⟩ := runW_pre (againW st.1 F) st
  have hlen := k3.trans hlen0
  have hall := k2
  unfold S64 at hall
  generalize (runW st (againW st.1 F)).2.1 = T at *
  clear k1 k2 k3 hfull
  obtain ⟨S, l0, d0⟩ := st
  simp only at *
  have hclr := clrN_in (S := S)
  have hfc : ∀ c ∈ clrN (jS S) (jS S).length, wFit S.length c.1 c.2 = true := by
    intro c hc
    obtain ⟨_, h2, h3, h4⟩ := hclr c hc
    rw [wFit, h2]
    exact decide_eq_true ⟨⟨h4, h3⟩, .inl rfl⟩
  have hkeep : S[1]? = some Z64 → F = [] := fun hz => got_clear hz hG
  have hclearcase : S[1]? = some Z64 → ∀ U, OutEq S U → T[1]? = some Z64 ∧ OutEq T U := by
    intro hz U hU
    have hF := hkeep hz
    subst hF
    rw [againW, ite_self, List.nil_append] at hw
    rw [hw]
    exact ⟨apW_keep _ _ (fun c hc => (hclr c (List.mem_of_mem_take hc)).2.1) hz, (OutEq.inj fun c hc => (hclr c (List.mem_of_mem_take hc)).1).trans hU⟩
  have hA : InvA S0 E S → InvA S0 E T := fun h => hclearcase h.1 _ h.2
  rcases hD with ⟨hz, ho⟩ | ⟨hp, ho⟩
  · refine ⟨⟨hlen, hall, .inl ?_⟩, hA, ?_⟩
    · rcases ho with ho | ho
      · obtain ⟨h1, h2⟩ := hclearcase hz _ ho
        exact ⟨h1, .inl h2⟩
      · obtain ⟨h1, h2⟩ := hclearcase hz _ ho
        exact ⟨h1, .inr h2⟩
    · have hF := hkeep hz
      subst hF
      rw [againW, ite_self, List.nil_append]
      exact hfc
  · have hF : F = E := by
      rcases hG with ⟨_, h1, h2⟩ | ⟨_, _, h2⟩
      · exact putC_one h1 hE h2 hp
      · exact absurd hp (h2 E hE)
    subst hF
    have hth2 : thereC S.length F = true := by rw [hlen0]; exact hth
    rw [againW, if_pos hth2] at hw hr ⊢
    have hout := checkC_out hE
    have hfit : ∀ c ∈ F ++ clrN (jS S) (jS S).length, wFit S.length c.1 c.2 = true := by
      intro c hc
      rcases List.mem_append.1 hc with hc | hc
      · have h1 := List.all_eq_true.1 (checkC_ok hE).1 c hc
        have h2 := List.all_eq_true.1 (checkC_ok hE).2.2.1 c hc
        rw [thereC, Bool.and_eq_true] at hth2
        have h3 := List.all_eq_true.1 hth2.1 c hc
        unfold placeC at h1
        unfold formC at h2
        simp only [Bool.or_eq_true, Bool.and_eq_true, decide_eq_true_eq] at h1 h2 h3
        rw [wFit]
        exact decide_eq_true ⟨⟨by omega, h3⟩, h2⟩
      · exact hfc c hc
    refine ⟨⟨hlen, hall, ?_⟩, hA, hfit⟩
    rcases take_append3 r F (clrN (jS S) (jS S).length) with ⟨h1, h2⟩ | ⟨h1, h2⟩
    · rw [h2] at hw
      refine .inr ⟨?_, ?_⟩
      · rw [hw, jS_out fun c hc => hout c (List.mem_of_mem_take hc)]
        exact hp
      · rw [hw, apW_again _ _ fun c hc => List.mem_of_mem_take hc]
        exact ho
    · rw [h2, apW_append] at hw
      refine .inl ⟨?_, .inr ?_⟩
      · rw [hw]
        refine apW_hit _ _ (fun c hc => (hclr c (List.mem_of_mem_take hc)).2.1) ⟨((1 : Int), []), ?_, rfl⟩ (by rw [apW_len]; omega)
        obtain ⟨s0, rest, e1, h3, _⟩ := putC_says hE hp
        have hnc : clearB s0 = false := by
          cases hcb : clearB s0 with
          | false => rfl
          | true => rw [clearB_iff.1 hcb, open_Z] at h3; cases h3
        obtain ⟨r2, hr2⟩ : ∃ r2, r - F.length = r2 + 1 := ⟨r - F.length - 1, by omega⟩
        rw [hr2, e1, List.length_cons, clrN, List.range_succ_eq_map, List.flatMap_cons, List.getD_cons_zero, if_neg (by rw [hnc]; decide)]
        exact List.mem_cons_self
      · rw [hw]
        exact (OutEq.inj fun c hc => (hclr c (List.mem_of_mem_take hc)).1).trans ho
/-- Clean, and the same outside of the journal: the same. -/
theorem clean_same {S T : List (List UInt8)} (hl : S.length = T.length) (h1 : cleanS S = true) (h2 : cleanS T = true) (ho : OutEq S T) : S = T := by
  apply List.ext_getElem?
  intro i
  by_cases hi : i = 0 ∨ 34 ≤ i
  · exact ho i hi
  · by_cases h3 : i < S.length
    · have e1 := cleanS_iff.1 h1 (i - 1) (by omega) (by omega)
      have e2 := cleanS_iff.1 h2 (i - 1) (by omega) (by omega)
      rw [show 1 + (i - 1) = i by omega] at e1 e2
      rw [e1, e2]
    · rw [List.getElem?_eq_none (by omega), List.getElem?_eq_none (by omega)]
theorem clean_out {S : List (List UInt8)} {l : List En} (h : ∀ c ∈ l, outJ c) : cleanS (apW S l) = cleanS S := by rw [cleanS, cleanS, jS_out h]
/-- In the end: all, or nothing; all, if it was told so. -/
theorem end_inv {S0 S : List (List UInt8)} {E : List En} (hS0 : 34 ≤ S0.length) (hc0 : cleanS S0 = true) (hE : checkC E = 0) (hI : InvJ S0 E S) (hc : cleanS S = true) : (S = S0 ∨ S = apW S0 E) ∧ (InvA S0 E S → S = apW S0 E) := by
  obtain ⟨hlen, _, hD⟩ := hI
  have hca : cleanS (apW S0 E) = true := by rw [clean_out (checkC_out hE)]; exact hc0
  refine ⟨?_, fun h => clean_same (by rw [apW_len]; exact hlen) hc hca h.2⟩
  rcases hD with ⟨_, ho | ho⟩ | ⟨hp, _⟩
  · exact .inl (clean_same hlen hc hc0 ho)
  · exact .inr (clean_same (by rw [apW_len]; exact hlen) hc hca ho)
  · obtain ⟨s0, rest, e1, h3, _⟩ := putC_says hE hp
    have h4 := jS_get S 0
    have h5 := cleanS_iff.1 hc 0 (by decide) (by omega)
    rw [if_pos (by decide), h5, e1, List.getElem?_cons_zero] at h4
    rw [Option.some.inj h4, open_Z] at h3
    cases h3
/-- With a clean journal a Recover writes nothing. -/
theorem again_none {S : List (List UInt8)} {F : List En} {ok : Bool} (hS : 2 ≤ S.length) (hc : cleanS S = true) (hG : GotC (jS S) F ok) : againW S F = [] := by
  have hF := got_clear (cleanS_iff.1 hc 0 (by decide) (by omega)) hG
  subst hF
  rw [againW, ite_self, List.nil_append, List.eq_nil_iff_forall_not_mem]
  intro c hcm
  obtain ⟨i, hi, hb, _⟩ := clrN_mem.1 hcm
  rw [cleanS, List.all_eq_true] at hc
  have := hc _ (List.getElem_mem hi)
  rw [List.getD_eq_getElem?_getD, List.getElem?_eq_getElem hi, Option.getD_some, this] at hb
  cases hb
end Sh
/- sherdref18.Put. -/
set_option linter.unusedVariables false
set_option linter.unusedSimpArgs false
namespace Sh
open Go Go.RowKit Go.Proofs
attribute [local go_sem ↓] Go.wp_at_zero Go.wp_at_succ
set_option maxHeartbeats 1000000
set_option maxRecDepth 100000

def putCN (b : List UInt8) (n : Nat) : List (List UInt8) := sealS (headC b) :: (List.range n).map fun i => sealS (bodyC b i)
set_option maxHeartbeats 8000000
theorem chRPut_ok {w : World} {R : Snap} {L : Asrt} {v : Value} {cs : List Ch} (H : Holds w R L) (hr : RdC R.cell? v cs) (hz : SzC cs) (hok : checkC (conC cs) = 0) :
    Calls Try.prog 68 #[v] w fun e w' => ∃ o q, e = .returned o ∧ q.map Prod.snd = putC (conC cs) ∧ Holds w' R (rowsR o q L) := by
  obtain ⟨a0, c0, rfl⟩ := hr.form
  have hpl := placeC_le hok
  have hse := (checkC_ok hok).2.2.2
  obtain ⟨E, hE⟩ : ∃ E, E = conC cs := ⟨_, rfl⟩
  rw [← hE] at hse ⊢
  have H1 := chText_spec H hr hz hpl
  rw [← hE] at H1
  have HTX := Hid.mk' H1
  obtain ⟨n0, hn0⟩ : ∃ n, n = cs.length := ⟨_, rfl⟩
  rw [← hn0] at HTX ⊢
  obtain ⟨bt, hbt⟩ : ∃ bt, bt = textC E := ⟨_, rfl⟩
  rw [← hbt] at HTX
  obtain ⟨N, hN⟩ : ∃ N, N = bt.length := ⟨_, rfl⟩
  have hN9 : N ≤ 1856 := by rw [hN, hbt, textC_len]; exact hse
  obtain ⟨M, hM⟩ : ∃ M, M = partsN N := ⟨_, rfl⟩
  have hM9 : M ≤ 32 := by rw [hM]; unfold partsN; omega
  obtain ⟨PT, hPT⟩ : ∃ PT : Nat → List (List UInt8), PT = putCN bt := ⟨_, rfl⟩
  have HPT0 : Hid (PT 0 = [sealS (headC bt)]) := Hid.mk' (by rw [hPT, putCN]; rfl)
  have HPTS : Hid (∀ j, PT (j + 1) = PT j ++ [sealS (bodyC bt j)]) := Hid.mk' (fun j => by rw [hPT, putCN, putCN, List.range_succ, List.map_append]; rfl)
  have HPR : Hid (putC E = PT M) := Hid.mk' (by rw [hPT, putC, putCN, hM, hN, hbt])
  clear hPT
  rw [HPR.out]
  have hMN : 58 * M < N + 58 ∧ N ≤ 58 * M := by rw [hM]; unfold partsN; omega
  have hq1 : ((N : Int) + 57).tdiv 58 = (M : Int) := by rw [Int.tdiv_eq_ediv_of_nonneg (by omega)]; omega
  have hq2 : IntKind.i64.wrap (M : Int) = (M : Int) := IntWalk.i64_in _ (by omega)
  have hq3 : IntKind.u8.wrap (M : Int) = (M : Int) := by simp [IntKind.wrap, IntKind.signed, IntKind.bits]; omega
  have HN := Hid.mk' hN
  have HM := Hid.mk' hM
  have HHD : Hid (∀ x, x = nb 1 106 ++ nb 1 (M : Nat) ++ nb 2 (N : Nat) ++ nb 4 (tn (crcOf bt)) → sealS x = sealS (headC bt)) := Hid.mk' (fun x hx => by
    rw [hx, headC, ← hN, ← hM]; simp only [List.append_assoc])
  clear H hr hz hok hpl hse hE H1 hn0 hbt hN hM
  go_enter Try.func68, Try.ntmps68
  go_wp2_with fail
  refine HTX.out.mono ?_
  rintro e w1 ⟨o1, rfl, H1⟩
  obtain ⟨R4, le4, H4, hr4⟩ := H1.freezeRow
  replace hr4 : Rd R4.cell? 1 o1 N (u8s bt) := by rw [HN.out]; exact hr4
  obtain ⟨as_, cs_, rfl⟩ := Rd.form hr4
  have hB := Rd.bounds hr4
  have HSB : Hid (RdB R4.cell? (.slice as_ N cs_) bt) := Hid.mk' (by unfold RdB; rw [← HN.out]; exact hr4)
  have HSC : Hid (RdB R4.cell? (.slice as_ bt.length cs_) bt) := Hid.mk' (by have h := HSB.out; rw [HN.out] at h; exact h)
  obtain ⟨hB1, hB2, _⟩ := hB
  clear H1 hr4
  go_upto_region 4 with fail
  have hM8 : ((UInt8.ofNat M).toNat : Int) = (M : Int) := by rw [UInt8.toNat_ofNat']; omega
  have H5 := H4.alloc #[.int .u8 106, .int .u8 (M : Int)] tU8
  have H6 := blkB (n := 2) H5 [106, UInt8.ofNat M] (by
    show [Value.int .u8 106, Value.int .u8 (M : Int)] = [Value.int .u8 ((106 : UInt8).toNat : Int), Value.int .u8 ((UInt8.ofNat M).toNat : Int)]
    rw [hM8]; rfl) rfl (by simp)
  have e6 : [106, UInt8.ofNat M] = nb 1 106 ++ nb 1 (M : Nat) := by rw [nb_byte (by omega), nb_one]; rfl
  rw [e6] at H6
  generalize (World.alloc ..) = w6 at H6 ⊢
  generalize w1.heap.size = g6 at H6 ⊢
  clear H4 H5 e6 hM8 hq1 hq2 hq3
  go_wp2_with fail
  refine (refnum_spec (k := 2) (n := (N : Nat)) H6 (by omega)).mono ?_
  rintro e w7 ⟨o7, rfl, H7⟩
  obtain ⟨a7, c7, rfl⟩ := H7.rowRd.form
  have hrd : RdB w7.cell? (.slice a7 (nb 2 (N : Nat)).length c7) (nb 2 (N : Nat)) := H7.rowRd
  have hlk : (nb 2 (N : Nat)).length ≤ 2 := by rw [nb_length, wid_2]; exact Nat.le_refl _
  have hl2 : (nb 1 106 ++ nb 1 (M : Nat)).length ≤ 2 := by rw [List.length_append, nb_length, nb_length, wid_1]; exact Nat.le_refl _
  have H8 := H7.swap
  clear H6
  go_wp2_with (with_reducible refine stop_append ?_)
  refine Hold.go (wpList_appendB (l := nb 1 106 ++ nb 1 (M : Nat)) (k := nb 2 (N : Nat)) rfl _ _ rfl rfl rfl H8 hrd (by omega) ?_)
  intro v9 w9 H9
  have H10 := H9.drop2
  clear H7 H8 hrd H9
  go_upto_region 5 with fail
  go_wp2_with fail
  refine (csum_ref (Rd.world HSB.out H10)).mono ?_
  rintro e w11 ⟨rfl, rfl⟩
  obtain ⟨sn, hsn, hsn9⟩ : ∃ sn : Nat, tn (crcOf bt) = (sn : Int) ∧ sn ≤ 4294967295 := ⟨(crcOf bt).toNat, rfl, by have := (crcOf bt).isLt; omega⟩
  rw [hsn]
  have HSN := Hid.mk' hsn
  clear hsn
  go_wp2_with fail
  refine (refnum_spec (k := 4) (n := (sn : Nat)) H10 (by omega)).mono ?_
  rintro e w12 ⟨o12, rfl, H12⟩
  obtain ⟨a12, c12, rfl⟩ := H12.rowRd.form
  have hrd : RdB w12.cell? (.slice a12 (nb 4 (sn : Nat)).length c12) (nb 4 (sn : Nat)) := H12.rowRd
  have hlk4 : (nb 4 (sn : Nat)).length ≤ 4 := by rw [nb_length, wid_4]; exact Nat.le_refl _
  have H13 := H12.swap
  clear H10
  go_wp2_with (with_reducible refine stop_append ?_)
  refine Hold.go (wpList_appendB (l := nb 1 106 ++ nb 1 (M : Nat) ++ nb 2 (N : Nat)) (k := nb 4 (sn : Nat)) rfl _ _ rfl rfl rfl H13 hrd (by rw [List.length_append]; omega) ?_)
  intro v14 w14 H14
  obtain ⟨hd, hhd⟩ : ∃ x, x = nb 1 106 ++ nb 1 (M : Nat) ++ nb 2 (N : Nat) ++ nb 4 (sn : Nat) := ⟨_, rfl⟩
  rw [← hhd] at H14
  have hhl : hd.length ≤ 60 := by rw [hhd, List.length_append, List.length_append]; omega
  have HS : Hid (sealS hd = sealS (headC bt)) := Hid.mk' (HHD.out hd (by rw [hhd, HSN.out]))
  obtain ⟨R15, le15, H15, hr15⟩ := H14.drop2.freezeRow
  have leA := le4.trans le15
  clear H12 H13 hrd H14 hlk hlk4 hl2 hhd
  go_upto_region 6 with fail
  go_wp2_with fail
  refine (rsseal_spec H15 hr15 hhl).mono ?_
  rintro e w16 ⟨o16, rfl, H16⟩
  rw [HS.out] at H16
  obtain ⟨HDs, hHDs⟩ : ∃ x, x = sealS (headC bt) := ⟨_, rfl⟩
  rw [← hHDs] at H16
  have HHDs := Hid.mk' hHDs
  obtain ⟨a16, c16, rfl⟩ := H16.rowRd.form
  have H17 : Holds _ R15 (star (row tBytes 1 (.slice (some ⟨w16.heap.size, 0, none⟩) 1 1) 1 [.slice a16 HDs.length c16]) (star (rowB (.slice a16 HDs.length c16) HDs) L)) := (H16.alloc #[.slice a16 HDs.length c16] tBytes).toRow 1 1 1 (Nat.le_refl _) (by decide) rfl
  clear H15 H16 hr15 hhl hHDs
  go_upto_region 7 with fail
  generalize (World.alloc ..) = w17 at H17 ⊢
  generalize w16.heap.size = g17 at H17 ⊢
  obtain ⟨b0, o0, ha⟩ : ∃ b0 o0, 0 < N → as_ = some ⟨b0, o0, none⟩ := by
    by_cases h : 0 < N
    · obtain ⟨b1, o1, h1, _⟩ := RdB.open (by have := HSB.out; rw [HN.out] at this; exact this) (by rw [← HN.out]; exact h)
      exact ⟨b1, o1, fun _ => h1⟩
    · exact ⟨0, 0, fun h' => absurd h' h⟩
  clear ha
  go_wp2_with fail
  go_loopw [6, 7] (fun s6 i wx => ∃ (j : Nat) (R3 : Snap) (o : Value) (q : List (Value × List UInt8)), i = .int .i64 (j : Int) ∧ j ≤ M ∧ s6 = o ∧ q.map Prod.snd = PT j ∧ q.length = 1 + j ∧ R15.le R3 ∧ Holds wx R3 (rowsR o q L)) (fun _ i _ => M - (intOf i).toNat)
  case atStart => exact ⟨0, R15, _, [(.slice a16 HDs.length c16, HDs)], rfl, Nat.zero_le _, rfl, by rw [HPT0.out, ← HHDs.out]; rfl, rfl, Snap.le.refl _, by
    unfold rowsR
    rw [bytesAll_one]
    exact H17⟩
  case round =>
    clear H17
    obtain ⟨j, R3, o, q, rfl, hj, rfl, hq, hql, le3, H18⟩ := hrel
    have HQ := Hid.mk' hq
    have hq40 : q.length ≤ 40 := by omega
    have HQL := Hid.mk' hql
    clear hq hql
    by_cases hlt : j < M
    · have d1 : decide ((j : Int) < (M : Int)) = true := by simp; omega
      have d1n : decide (j < M) = true := by simp; omega
      obtain ⟨lo, hlo⟩ : ∃ lo, lo = 58 * j := ⟨_, rfl⟩
      have hloi : (58 : Int) * (j : Int) = (lo : Int) := by omega
      obtain ⟨e, he⟩ : ∃ e, e = min (lo + 58) N := ⟨_, rfl⟩
      have hloN : lo < N := by omega
      have HLO := Hid.mk' hlo
      have HE := Hid.mk' he
      clear hlo he
      go_upto_region 10 with fail
      go_cut [8] from 33 to 60 (fun c wx => c = .int .i64 ((lo : Int) + 58) ∧ wx = wr)
      case first =>
        go_wp2_with fail
        go_meet
        case rel => exact ⟨rfl, rfl⟩
      obtain ⟨rfl, rfl⟩ := hcut
      rename_i K9 hK9
      refine hK9 _ _ ?_
      clear hK9 K9
      refine wp_seq_k (fun K9 hK9 => ?_)
      go_cut [8] from 33 to 60 (fun c wx => c = .int .i64 (e : Int) ∧ wx = wc)
      case first =>
        by_cases h58 : N < lo + 58
        · have t1 : decide ((N : Int) < (lo : Int) + 58) = true := decide_eq_true (by omega)
          have he2 : N = e := by rw [HE.out]; exact (Nat.min_eq_right (by omega)).symm
          have t1n : decide (N < lo + 58) = true := decide_eq_true h58
          have HE2 := Hid.mk' he2
          clear h58 he2
          go_wp2_with fail
          go_meet
          case rel => exact ⟨by rw [HE2.out], rfl⟩
        · have t1 : decide ((N : Int) < (lo : Int) + 58) = false := decide_eq_false (by omega)
          have he2 : e = lo + 58 := by rw [HE.out]; exact Nat.min_eq_left (by omega)
          have t1n : decide (N < lo + 58) = false := decide_eq_false h58
          have HE2 := Hid.mk' he2
          clear h58 he2
          go_wp2_with fail
          go_meet
          case rel => exact ⟨by rw [HE2.out]; go_num, rfl⟩
      obtain ⟨rfl, rfl⟩ := hcut
      refine hK9 _ _ ?_
      clear hK9 K9
      refine wp_seq_k (fun K9 hK9 => ?_)
      obtain ⟨LL, hLL⟩ : ∃ A, A = rowsR u6 q L := ⟨_, rfl⟩
      rw [← hLL] at H18
      have HLL := Hid.mk' hLL
      clear hLL
      have hj8 : ((UInt8.ofNat j).toNat : Int) = (j : Int) := by rw [UInt8.toNat_ofNat']; omega
      have hjw : IntKind.u8.wrap (j : Int) = (j : Int) := by simp [IntKind.wrap, IntKind.signed, IntKind.bits]; omega
      have hele : lo ≤ e ∧ e ≤ N ∧ e ≤ lo + 58 := by have := HE.out; omega
      have hsub := RdB.sub (Rd.le HSC.out (le15.trans le3)) lo e cs_ hele.1 (by rw [← HN.out]; exact hele.2.1) (by omega) (Nat.le_refl _)
      have h4 : (bt.drop lo).take (e - lo) = partC bt j := by
        rw [partC, HLO.out]
        have hlo := HLO.out
        have he := HE.out
        by_cases h : lo + 58 ≤ N
        · congr 1; omega
        · rw [List.take_of_length_le (by rw [List.length_drop, ← HN.out]; omega), List.take_of_length_le (by rw [List.length_drop, ← HN.out]; omega)]
      rw [h4] at hsub
      have HSUB := Hid.mk' hsub
      have HPL : Hid ((partC bt j).length ≤ 58) := Hid.mk' (by rw [partC_len]; omega)
      have i1 : (0 : Int) ≤ (lo : Int) := by omega
      have i2 : (lo : Int) ≤ (e : Int) := by omega
      have i3 : (e : Int) ≤ (cs_ : Int) := by omega
      clear hsub h4 hele
      go_wp2_with (with_reducible refine stop_append ?_)
      have H19 := blkB (n := 2) (H18.alloc #[.int .u8 98, .int .u8 (j : Int)] tU8) [98, UInt8.ofNat j] (by
        show [Value.int .u8 98, Value.int .u8 (j : Int)] = [Value.int .u8 ((98 : UInt8).toNat : Int), Value.int .u8 ((UInt8.ofNat j).toNat : Int)]
        rw [hj8]; rfl) rfl (by simp)
      refine Hold.go (wpList_appendB (l := [98, UInt8.ofNat j]) (k := partC bt j) rfl _ _ rfl rfl rfl H19 (Rd.world HSUB.out H19) (by have := HPL.out; simp; omega) ?_)
      intro v20 w20 H20
      obtain ⟨bd, hbd⟩ : ∃ x, x = [98, UInt8.ofNat j] ++ partC bt j := ⟨_, rfl⟩
      rw [← hbd] at H20
      have hbl : bd.length ≤ 60 := by rw [hbd, List.length_append]; have := HPL.out; simp; omega
      have HBD : Hid (bd = bodyC bt j) := Hid.mk' hbd
      obtain ⟨R21, le21, H21, hr21⟩ := H20.freezeRow
      clear H18 H19 H20 hbd hj8 hjw i1 i2 i3 hloi
      go_upto_region 14 with fail
      go_wp2_with fail
      refine (rsseal_spec H21 hr21 hbl).mono ?_
      rintro e22 w22 ⟨o22, rfl, H22⟩
      rw [HBD.out, HLL.out] at H22
      obtain ⟨a22, c22, rfl⟩ := H22.rowRd.form
      obtain ⟨SB, hSB⟩ : ∃ S, S = sealS (bodyC bt j) := ⟨_, rfl⟩
      rw [← hSB] at H22 ⊢
      have HSBB := Hid.mk' hSB
      clear hSB H21 hr21 hbl
      go_wp2_with (with_reducible refine stop_append ?_)
      have H23 := H22.alloc #[.slice a22 SB.length c22] tBytes
      have hr23 : Rd _ 1 _ 1 _ := (H23.toRow 1 1 1 (Nat.le_refl _) (by simp [maxLen]) rfl).rowRd
      unfold rowsR at H23
      refine Hold.go (wpList_append rfl _ _ rfl undSecs infoBytes rfl (by decide) rfl rfl H23.drop.swap hr23 (by simp [Value.oneCell']) (by simp only [maxLen]; omega) (by omega) ?_)
      intro v24 w24 H24
      clear H22 H23 hr23
      go_wp2_with fail
      go_roundw
      case rel =>
        refine ⟨j + 1, R21, v24, q ++ [(.slice a22 SB.length c22, SB)], by go_num, hlt, rfl, ?_, ?_, le3.trans le21, ?_⟩
        · rw [List.map_append, HQ.out, HPTS.out, HSBB.out]; rfl
        · rw [List.length_append, HQL.out]; simp; omega
        · unfold rowsR
          simp only [List.map_append, List.length_append, List.length_singleton, List.map_cons, List.map_nil, bytesAll_append, bytesAll_one]
          exact H24.ac (by ac_rfl)
      case measure => simp [intOf]; omega
    · have d1 : decide ((j : Int) < (M : Int)) = false := by simp; omega
      have d1n : decide (j < M) = false := by simp; omega
      obtain rfl : j = M := by omega
      go_wp2_with fail
      go_ret
      exact ⟨_, q, rfl, HQ.out, H18.weaken (leA.trans le3)⟩
end Sh
/- sherdref19.Writes. -/
set_option linter.unusedVariables false
set_option linter.unusedSimpArgs false
namespace Sh
open Go Go.RowKit Go.Proofs
attribute [local go_sem ↓] Go.wp_at_zero Go.wp_at_succ
set_option maxHeartbeats 1000000
set_option maxRecDepth 100000

def clrA (j : Nat) : List En := (List.range j).map fun i => (((1 + i : Nat) : Int), [])
theorem clrA_succ (j : Nat) : clrA (j + 1) = clrA j ++ [(((1 + j : Nat) : Int), [])] := by rw [clrA, List.range_succ, List.map_append]; rfl
theorem clrA_clrW (j : Nat) : clrA (j + 1) = [((1 : Int), [])] ++ clrW j := by
  rw [clrA, List.range_succ_eq_map, List.map_cons, List.map_map, clrW]
  simp only [List.singleton_append]
  congr 1
  apply List.map_congr_left
  intro i _
  simp only [Function.comp]
  rw [show 1 + i.succ = 2 + i by omega]
theorem cells_one {c : Addr → Option Value} {cs : List Ch} (h : ∀ x ∈ cs, RdB c x.v x.data) : ∀ y ∈ cs.flatMap Ch.cells, y.oneCell' = true := by
  intro y hy
  obtain ⟨x, hx, hy2⟩ := List.mem_flatMap.1 hy
  obtain ⟨a, k, hv⟩ := (h x hx).form
  simp only [Ch.cells, List.mem_cons, List.not_mem_nil, or_false] at hy2
  rcases hy2 with rfl | rfl
  · rfl
  · rw [hv]; rfl
set_option maxHeartbeats 4000000
theorem rjwrites_spec {w : World} {R : Snap} {L : Asrt} {v : Value} {cs : List Ch} (H : Holds w R L) (hr : RdC R.cell? v cs) (hz : SzC cs) (hok : checkC (conC cs) = 0) :
    Calls Try.prog 96 #[v] w fun e w' => ∃ (R' : Snap) (o : Value) (ds : List Ch), e = .returned o ∧ R.le R' ∧ RdC R'.cell? o ds ∧ conC ds = doW (conC cs) ∧ ds.length ≤ 2000 ∧ Holds w' R' L := by
  obtain ⟨a, c, rfl⟩ := hr.form
  obtain ⟨n, hn⟩ : ∃ n, n = cs.length := ⟨_, rfl⟩
  have HZ := Hid.mk' hz
  have HN := Hid.mk' hn
  have HR : Hid (RdC R.cell? (.slice a n c) cs) := Hid.mk' (by rw [hn]; exact hr)
  have hn9 : n ≤ 1000 := by rw [hn]; exact hz.1
  rw [← hn]
  obtain ⟨E, hE⟩ : ∃ E, E = conC cs := ⟨_, rfl⟩
  have HE := Hid.mk' hE
  rw [← hE] at hok ⊢
  have HOK := Hid.mk' hok
  clear hr hz hn hE hok
  by_cases hn0 : n = 0
  · have hE0 : E = [] := by
      rw [HE.out]
      have h := HN.out
      rw [hn0] at h
      rw [List.eq_nil_of_length_eq_zero h.symm]; rfl
    have HX0 : Hid (doW E = []) := Hid.mk' (by rw [hE0, doW, if_pos rfl])
    have t0 : ((n : Int) == 0) = true := by rw [beq_iff_eq]; omega
    clear hn0 hE0
    go_enter Try.func96, Try.ntmps96
    go_wp2_with fail
    go_ret
    exact ⟨R, _, [], rfl, Snap.le.refl _, ⟨Rd.nil, fun _ h => by cases h⟩, HX0.out.symm, Nat.zero_le _, H⟩
  have t0 : ((n : Int) == 0) = false := by rw [beq_eq_false_iff_ne]; omega
  have hE0 : E ≠ [] := by
    intro h
    have h2 := HN.out
    have h3 := HE.out
    rw [h] at h3
    have h4 := congrArg List.length h3
    rw [conC_len, ← h2] at h4
    simp at h4
    omega
  have HE0 := Hid.mk' hE0
  clear hE0 hn0
  go_enter Try.func96, Try.ntmps96
  go_wp2_with fail
  refine (chRPut_ok H HR.out HZ.out (by rw [← HE.out]; exact HOK.out)).mono ?_
  rintro e w2 ⟨o2, q, rfl, hq, H2⟩
  obtain ⟨R3, le3, H3, hqq⟩ := freezeBB H2
  obtain ⟨aq, cq, rfl⟩ := hqq.form
  obtain ⟨G, hG⟩ : ∃ G, G = q.length := ⟨_, rfl⟩
  obtain ⟨s, hs⟩ : ∃ s, s = putC E := ⟨_, rfl⟩
  replace hq : q.map Prod.snd = s := by rw [hs, HE.out]; exact hq
  have hsl : s.length = G := by rw [← hq, List.length_map, hG]
  have hG9 : 1 ≤ G ∧ G ≤ 40 := by
    have h := putC_len E
    have h1 := (checkC_ok HOK.out).2.2.2
    rw [← hs, hsl, textC_len] at h
    unfold partsN at h; omega
  obtain ⟨hG1, hG2⟩ := hG9
  have HDW : Hid (doW E = bodW s (G - 1) ++ ([((1 : Int), s.getD 0 [])] ++ (E ++ clrA G))) := Hid.mk' (by
    rw [doW, if_neg HE0.out, ← hs, hsl]
    have e : clrA G = [((1 : Int), [])] ++ clrW (G - 1) := by rw [← clrA_clrW]; congr 1; omega
    rw [e])
  have HGG := Hid.mk' hG
  have HQ := Hid.mk' hq
  have HSS := Hid.mk' hs
  have HQQ := Hid.mk' hqq
  have HR3 := Hid.mk' (HR.out.le le3)
  have HR5 : Hid (Rd R3.cell? 2 (.slice a n c) n (cs.flatMap Ch.cells)) := Hid.mk' (by have h := HR3.out.1; rw [← HN.out] at h; exact h)
  have HGET : Hid (∀ j (h : j < q.length), q[j].2 = s.getD j []) := Hid.mk' (fun j h => by
    rw [List.getD_eq_getElem?_getD, ← HQ.out, List.getElem?_map, List.getElem?_eq_getElem h]; rfl)
  rw [← hG]
  clear H H2 hq hs hsl hqq hG
  go_wp2_with fail
  go_loopw [3, 5] (fun d i wx => ∃ (j k : Nat) (ds : List Ch), i = .int .i64 (k : Int) ∧ k = j + 1 ∧ k ≤ G ∧ Hid (conC ds = bodW s j ∧ (∀ x ∈ ds, RdB R3.cell? x.v x.data)) ∧ Hid (ds.length = j) ∧ Holds wx R3 (star (row tChg 2 d j (ds.flatMap Ch.cells)) L)) (fun _ i _ => G - (intOf i).toNat)
  case atStart => exact ⟨0, 1, [], rfl, rfl, hG1, Hid.mk' ⟨rfl, (fun _ h => by cases h)⟩, Hid.mk' rfl, H3.nilRow _ 2⟩
  case round =>
    clear H3
    obtain ⟨j, k, ds, rfl, hk, hkG, HA, HL, H6⟩ := hrel
    have HK := Hid.mk' hk
    have hj40 : j ≤ 40 := by omega
    clear hk
    obtain ⟨ad, cd, rfl⟩ := H6.rowRd.form
    by_cases hlt : k < G
    · have d1 : decide ((k : Int) < (G : Int)) = true := by simp; omega
      have hjq : k < q.length := by rw [← HGG.out]; exact hlt
      obtain ⟨b2, o2, ha2, hc2, hq2⟩ := RdBB.at HQQ.out hjq
      subst ha2
      replace hc2 := H6.cell hc2
      have gy := HGET.out k hjq
      generalize q[k] = xy at *
      obtain ⟨vy, y2⟩ := xy
      simp only at hc2 hq2 gy
      obtain ⟨ay, cy, rfl⟩ := hq2.form
      have HGY := Hid.mk' gy
      have HQ2 := Hid.mk' hq2
      have i1 : (0 : Int) ≤ (k : Int) := by omega
      have i2 : (k : Int) < (G : Int) := by omega
      obtain ⟨m1, hm1⟩ : ∃ m, m = 1 + k := ⟨_, rfl⟩
      have ha1 : (1 : Int) + (k : Int) = (m1 : Int) := by omega
      have HM1 := Hid.mk' hm1
      clear hm1 hq2 gy hjq
      go_wp2_with (with_reducible refine stop_append ?_)
      have H7 := H6.alloc #[.int .i64 (m1 : Int), .slice ay y2.length cy] tChg
      have hr7 := (H7.toRow 2 1 1 (Nat.le_refl _) (by decide) rfl).rowRd
      refine Hold.go (wpList_append rfl _ _ rfl undChgs infoChg rfl (by decide) rfl rfl H7.drop hr7 (by simp [Value.oneCell']) (by simp only [maxLen]; omega) (by omega) ?_)
      intro v8 w8 H8
      clear H6 H7 hr7 hc2
      go_wp2_with fail
      go_roundw
      case rel =>
        obtain ⟨h1, h3⟩ := HA.out
        refine ⟨j + 1, k + 1, ds ++ [⟨(m1 : Int), .slice ay y2.length cy, y2⟩], by go_num, by have := HK.out; omega, hlt, Hid.mk' ⟨?_, ?_⟩, Hid.mk' ?_, ?_⟩
        · have h5 := HK.out
          rw [conC_snoc, h1, bodW_succ, HM1.out, HGY.out, h5, show 1 + (j + 1) = 2 + j by omega, show j + 1 = 1 + j by omega]
        · intro x hx
          rcases List.mem_append.1 hx with hx | hx
          · exact h3 x hx
          · obtain rfl := List.mem_singleton.1 hx
            exact HQ2.out
        · rw [List.length_append, HL.out]; rfl
        · rw [List.flatMap_append]
          exact H8
      case measure => simp [intOf]; omega
    · have d1 : decide ((k : Int) < (G : Int)) = false := by simp; omega
      obtain rfl : k = G := by omega
      have hq0 : 0 < q.length := by rw [← HGG.out]; omega
      obtain ⟨b2, o2, ha2, hc2, hq2⟩ := RdBB.at HQQ.out hq0
      subst ha2
      replace hc2 : wr.cell? ⟨b2, o2, none⟩ = some q[0].1 := H6.cell hc2
      have gy := HGET.out 0 hq0
      generalize q[0] = xy at *
      obtain ⟨vy, y2⟩ := xy
      simp only at hc2 hq2 gy
      obtain ⟨ay, cy, rfl⟩ := hq2.form
      have HGY := Hid.mk' gy
      have HQ2 := Hid.mk' hq2
      have i1 : (0 : Int) < (k : Int) := by omega
      clear hq2 gy hq0
      go_wp2_with (with_reducible refine stop_append ?_)
      have H7 := H6.alloc #[.int .i64 1, .slice ay y2.length cy] tChg
      have hr7 := (H7.toRow 2 1 1 (Nat.le_refl _) (by decide) rfl).rowRd
      refine Hold.go (wpList_append rfl _ _ rfl undChgs infoChg rfl (by decide) rfl rfl H7.drop hr7 (by simp [Value.oneCell']) (by simp only [maxLen]; omega) (by omega) ?_)
      intro v8 w8 H8
      clear H6 H7 hr7 hc2
      obtain ⟨a8, c8, rfl⟩ := H8.rowRd.form
      go_wp2_with (with_reducible refine stop_append ?_)
      refine Hold.go (wpList_append rfl _ _ rfl undChgs infoChg rfl (by decide) rfl rfl H8 (Rd.world HR5.out H8) (cells_one HR3.out.2) (by simp only [maxLen]; omega) (by omega) ?_)
      intro v9 w9 H9
      clear H8
      obtain ⟨a9, c9, rfl⟩ := H9.rowRd.form
      obtain ⟨ps, hps⟩ : ∃ ps, ps = ds ++ [(⟨1, .slice ay y2.length cy, y2⟩ : Ch)] ++ cs := ⟨_, rfl⟩
      have e9 : ds.flatMap Ch.cells ++ [Value.int .i64 1, .slice ay y2.length cy] ++ cs.flatMap Ch.cells = ps.flatMap Ch.cells := by rw [hps, List.flatMap_append, List.flatMap_append]; rfl
      replace H9 : Holds w9 R3 (star (row tChg 2 (.slice a9 (j + 1 + n) c9) (j + 1 + n) (ds.flatMap Ch.cells ++ [Value.int .i64 1, .slice ay y2.length cy] ++ cs.flatMap Ch.cells)) L) := H9
      rw [e9] at H9
      have hpc : conC ps = bodW s j ++ ([((1 : Int), s.getD 0 [])] ++ E) := by
        rw [hps, conC, List.map_append, List.map_append, List.append_assoc]
        show conC ds ++ ([((1 : Int), y2)] ++ conC cs) = _
        rw [HA.out.1, HGY.out, ← HE.out]
      have hpr : ∀ x ∈ ps, RdB R3.cell? x.v x.data := by
        intro x hx
        rw [hps] at hx
        rcases List.mem_append.1 hx with hx | hx
        · rcases List.mem_append.1 hx with hx | hx
          · exact HA.out.2 x hx
          · obtain rfl := List.mem_singleton.1 hx
            exact HQ2.out
        · exact HR3.out.2 x hx
      have hpl : ps.length = j + 1 + n := by rw [hps, List.length_append, List.length_append, HL.out, HN.out]; rfl
      have HPC := Hid.mk' hpc
      have HPR := Hid.mk' hpr
      have HPL := Hid.mk' hpl
      obtain ⟨P, hP⟩ : ∃ P, P = j + 1 + n := ⟨_, rfl⟩
      have hP9 : P ≤ 1041 := by omega
      rw [← hP] at H9 HPL ⊢
      clear e9 hpc hpr hpl hps hP
      go_wp2_with fail
      go_loopw [3, 6] (fun d i wx => ∃ (i' : Nat) (es : List Ch), i = .int .i64 (i' : Int) ∧ i' ≤ k ∧ Hid (conC es = clrA i' ∧ (∀ x ∈ es, x.v = .slice none 0 0 ∧ x.data = [])) ∧ Hid (es.length = i') ∧ Holds wx R3 (star (row tChg 2 d (P + i') (ps.flatMap Ch.cells ++ es.flatMap Ch.cells)) L)) (fun _ i _ => k - (intOf i).toNat)
      case atStart => exact ⟨0, [], rfl, Nat.zero_le _, Hid.mk' ⟨rfl, (fun _ h => by cases h)⟩, Hid.mk' rfl, by rw [List.flatMap_nil, List.append_nil]; exact H9⟩
      case round =>
        clear H9
        obtain ⟨i', es, rfl, hi, HA2, HL2, H10⟩ := hrel
        obtain ⟨ae, ce, rfl⟩ := H10.rowRd.form
        by_cases hlt : i' < k
        · have d2 : decide ((i' : Int) < (k : Int)) = true := by simp; omega
          obtain ⟨m1, hm1⟩ : ∃ m, m = 1 + i' := ⟨_, rfl⟩
          have ha1 : (1 : Int) + (i' : Int) = (m1 : Int) := by omega
          have HM1 := Hid.mk' hm1
          clear hm1
          go_wp2_with (with_reducible refine stop_append ?_)
          have H11 := H10.alloc #[.int .i64 (m1 : Int), .slice none 0 0] tChg
          have hr11 := (H11.toRow 2 1 1 (Nat.le_refl _) (by decide) rfl).rowRd
          refine Hold.go (wpList_append rfl _ _ rfl undChgs infoChg rfl (by decide) rfl rfl H11.drop hr11 (by simp [Value.oneCell']) (by simp only [maxLen]; omega) (by omega) ?_)
          intro v12 w12 H12
          clear H10 H11 hr11
          go_wp2_with fail
          go_roundw
          case rel =>
            obtain ⟨h1, h3⟩ := HA2.out
            refine ⟨i' + 1, es ++ [⟨(m1 : Int), .slice none 0 0, []⟩], by go_num, hlt, Hid.mk' ⟨?_, ?_⟩, Hid.mk' ?_, ?_⟩
            · rw [conC_snoc, h1, clrA_succ, HM1.out]
            · intro x hx
              rcases List.mem_append.1 hx with hx | hx
              · exact h3 x hx
              · obtain rfl := List.mem_singleton.1 hx
                exact ⟨rfl, rfl⟩
            · rw [List.length_append, HL2.out]; rfl
            · rw [List.flatMap_append, ← List.append_assoc]
              exact H12
          case measure => simp [intOf]; omega
        · have d2 : decide ((i' : Int) < (k : Int)) = false := by simp; omega
          obtain rfl : i' = k := by omega
          obtain ⟨R13, le13, H13, hr13⟩ := H10.freezeRow
          have HR13 := Hid.mk' hr13
          clear H10 hr13
          go_wp2_with fail
          go_ret
          refine ⟨R13, _, ps ++ es, rfl, le3.trans le13, ⟨?_, ?_⟩, ?_, ?_, H13⟩
          · rw [List.length_append, HPL.out, HL2.out, List.flatMap_append]; exact HR13.out
          · intro x hx
            rcases List.mem_append.1 hx with hx | hx
            · exact Rd.le (HPR.out x hx) le13
            · obtain ⟨e1, e2⟩ := HA2.out.2 x hx
              rw [e1, e2]; exact Rd.nil
          · rw [HDW.out, conC, List.map_append]
            show conC ps ++ conC es = _
            have h5 := HK.out
            rw [HPC.out, HA2.out.1, show i' - 1 = j by omega]
            simp [List.append_assoc]
          · rw [List.length_append, HPL.out, HL2.out]; omega
end Sh
