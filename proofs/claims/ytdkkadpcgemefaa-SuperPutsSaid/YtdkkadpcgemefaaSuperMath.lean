/- super's plain law. -/
import Derived.Test.YtdkkadpcgemefaaPackEasy
import Derived.Test.YtdkkadpcgemefaaSectorLaw
set_option linter.unusedVariables false
set_option linter.unusedSimpArgs false
namespace Sh
open Go Go.RowKit Go.Proofs
attribute [local go_sem ↓] Go.wp_at_zero Go.wp_at_succ
set_option maxHeartbeats 1000000
set_option maxRecDepth 100000

def supEq (f d s f' d' s' : Int) : Bool := decide (f = f') && (decide (d = d') && decide (s = s'))
abbrev supZero (f d s : Int) : Bool := supEq f d s 0 0 0
def supRight (f d s : Int) : Bool := supZero f d s || decide (0 ≤ d ∧ d ≤ f ∧ f ≤ 4294967295 ∧ (s = 1 ∨ s = 2))
def supP (f d s : Int) : List UInt8 := [83] ++ nb 1 s ++ nb 4 f ++ nb 4 d
theorem supP_len (f d s : Int) : (supP f d s).length = 10 := by simp [supP, nb_length, show wid 1 = 1 from by decide, show wid 4 = 4 from by decide]
def supPut (f d s : Int) : List UInt8 := if supRight f d s = true then (if supZero f d s = true then List.replicate 64 0 else sealS (supP f d s)) else []
theorem supPut_len (f d s : Int) : (supPut f d s).length ≤ 64 := by
  unfold supPut; split
  · split
    · simp
    · exact sealS_len_le _
  · simp
/-- The numbers that an opened sector has. -/
def supS (p : List UInt8) : Int := valB ((p.drop 1).take 1)
def supF (p : List UInt8) : Int := valB ((p.drop 2).take 4)
def supD (p : List UInt8) : Int := valB ((p.drop 6).take 4)
def supSays (b : List UInt8) : Bool := !supZero (supF (b.take 60)) (supD (b.take 60)) (supS (b.take 60)) && decide (supPut (supF (b.take 60)) (supD (b.take 60)) (supS (b.take 60)) = b)
def refSays (p : List UInt8) : Bool := decide (p.getD 0 0 = 83 ∧ (1 ≤ supS p ∧ supS p ≤ 2) ∧ p.drop 10 = List.replicate 50 0 ∧ supD p ≤ supF p)
theorem sealB_inj {p q : List UInt8} (hl : p.length = q.length) (h : sealB p = sealB q) : p = q := by
  have := congrArg (List.take p.length) h
  simp only [sealB] at this
  rw [List.take_append_of_le_length (Nat.le_refl _), List.take_length, hl, List.take_append_of_le_length (Nat.le_refl _), List.take_length] at this
  exact this
theorem open_is {b : List UInt8} (h : openOk b = true) : b.length = 64 ∧ b = sealB (b.take 60) := by
  simp only [openOk, Bool.and_eq_true, decide_eq_true_eq, goodB] at h
  obtain ⟨h1, h2, h3⟩ := h
  rw [h1] at h3
  exact ⟨h1, h3⟩
theorem valB_one (l : List UInt8) : (valB (l.take 1) : Int) = (l.getD 0 0).toNat := by
  cases l <;> simp [valB]
theorem sup_split {p : List UInt8} (h : p.length = 60) : p = [p.getD 0 0] ++ ((p.drop 1).take 1 ++ ((p.drop 2).take 4 ++ ((p.drop 6).take 4 ++ p.drop 10))) := by
  match p, h with
  | a0 :: a1 :: a2 :: a3 :: a4 :: a5 :: a6 :: a7 :: a8 :: a9 :: l, _ => rfl
theorem supP_eq {p : List UInt8} (h : p.length = 60) (h0 : p.getD 0 0 = 83) : supP (supF p) (supD p) (supS p) = p.take 10 := by
  rw [supP, supS, supF, supD, nb_valB (by simp [wid]; omega), nb_valB (by simp [wid]; omega), nb_valB (by simp [wid]; omega)]
  conv => rhs; rw [sup_split h, h0]
  match p, h with
  | a0 :: a1 :: a2 :: a3 :: a4 :: a5 :: a6 :: a7 :: a8 :: a9 :: l, _ => simp
theorem pad_eq {p q : List UInt8} (hp : p.length = 60) (hq : q.length = 10) : padTo60 q = p ↔ q = p.take 10 ∧ p.drop 10 = List.replicate 50 0 := by
  rw [padTo60, List.take_of_length_le (by omega), hq, List.drop_replicate]
  constructor
  · rintro rfl
    rw [List.take_append_of_le_length (by omega), List.take_of_length_le (by omega), List.drop_append_of_le_length (by omega), List.drop_of_length_le (by omega)]
    exact ⟨rfl, rfl⟩
  · rintro ⟨h1, h2⟩
    rw [h1, show 60 - 10 = 50 from rfl, ← h2, List.take_append_drop]
theorem sup_same {b : List UInt8} (h : openOk b = true) : supSays b = refSays (b.take 60) := by
  obtain ⟨h1, h2⟩ := open_is h
  obtain ⟨p, hp⟩ : ∃ p, p = b.take 60 := ⟨_, rfl⟩
  have hpl : p.length = 60 := by rw [hp]; simp; omega
  unfold supSays
  rw [← hp] at h2 ⊢
  have hS := valB_lt ((p.drop 1).take 1)
  have hF := valB_lt ((p.drop 2).take 4)
  have hD := valB_lt ((p.drop 6).take 4)
  rw [show ((p.drop 1).take 1).length = 1 by simp; omega] at hS
  rw [show ((p.drop 2).take 4).length = 4 by simp; omega] at hF
  rw [show ((p.drop 6).take 4).length = 4 by simp; omega] at hD
  rw [Bool.eq_iff_iff]
  simp only [Bool.and_eq_true, Bool.not_eq_true', decide_eq_true_eq, refSays]
  constructor
  · rintro ⟨hz, hput⟩
    unfold supPut at hput
    rw [hz] at hput
    split at hput
    · rename_i hr
      simp only [supRight, hz, Bool.false_or, decide_eq_true_eq] at hr
      obtain ⟨r1, r2, r3, r4⟩ := hr
      rw [if_neg (by decide), sealS, if_pos (by rw [supP_len]; decide), h2] at hput
      have hq := sealB_inj (by rw [padTo60_len (by rw [supP_len]; decide), hpl]) hput
      have hq2 := (pad_eq hpl (supP_len _ _ _)).1 hq
      refine ⟨?_, by omega, hq2.2, r2⟩
      have e : (p.take 10).getD 0 0 = p.getD 0 0 := by
        match p, hpl with
        | a0 :: l, _ => rfl
      rw [← e, ← hq2.1]; rfl
    · rw [← hput] at h1; simp at h1
  · rintro ⟨r0, r1, r2, r3⟩
    have hz : supZero (supF p) (supD p) (supS p) = false := by
      simp only [supEq, Bool.and_eq_false_iff, decide_eq_false_iff_not]; omega
    refine ⟨hz, ?_⟩
    have hr : supRight (supF p) (supD p) (supS p) = true := by
      simp only [supRight, hz, Bool.false_or, decide_eq_true_eq]
      simp only [supF, supD, supS] at *
      omega
    rw [supPut, if_pos hr, hz, if_neg (by decide), sealS, if_pos (by rw [supP_len]; decide), (pad_eq hpl (supP_len _ _ _)).2 ⟨supP_eq hpl r0, r2⟩]
    exact h2.symm
end Sh
