/- The sum of 32 bits in plain words: one bit's step, a byte's row, what a burst does to it. -/
import Derived.WalkKit
set_option linter.unusedVariables false
set_option linter.unusedSimpArgs false
namespace Sh
open Go
abbrev Reg := BitVec 32
/-- One bit's step. -/
def crcStep (x : Reg) : Reg := if x.getLsbD 0 then (x >>> 1) ^^^ 0xEDB88320#32 else x >>> 1
def crcSteps : Nat → Reg → Reg
  | 0, x => x
  | n + 1, x => crcSteps n (crcStep x)
theorem crcStep_xor (x y : Reg) : crcStep (x ^^^ y) = crcStep x ^^^ crcStep y := by
  unfold crcStep
  rw [BitVec.getLsbD_xor]
  have lc : ∀ a b c : Reg, a ^^^ (b ^^^ c) = b ^^^ (a ^^^ c) := fun a b c => by rw [← BitVec.xor_assoc, BitVec.xor_comm a b, BitVec.xor_assoc]
  rw [BitVec.ushiftRight_xor_distrib]
  generalize x >>> 1 = a
  generalize y >>> 1 = b
  generalize 0xEDB88320#32 = p
  cases x.getLsbD 0 <;> cases y.getLsbD 0 <;> simp only [Bool.xor_true, Bool.xor_false, Bool.not_true, Bool.not_false, Bool.false_eq_true, if_true, if_false, Bool.xor_self]
  · rw [BitVec.xor_assoc]
  · rw [BitVec.xor_assoc, BitVec.xor_assoc, BitVec.xor_comm b p]
  · rw [BitVec.xor_assoc, lc p b p, BitVec.xor_self, BitVec.xor_zero]
theorem crcSteps_xor (n : Nat) : ∀ x y : Reg, crcSteps n (x ^^^ y) = crcSteps n x ^^^ crcSteps n y := by
  induction n with
  | zero => intro x y; rfl
  | succ n ih => intro x y; show crcSteps n (crcStep (x ^^^ y)) = _; rw [crcStep_xor, ih]; rfl
theorem crcSteps_add (m n : Nat) : ∀ x : Reg, crcSteps (m + n) x = crcSteps n (crcSteps m x) := by
  induction m with
  | zero => intro x; simp [crcSteps]
  | succ m ih => intro x; rw [Nat.succ_add]; exact ih _
theorem crcStep_top (x : Reg) : (crcStep x).getLsbD 31 = x.getLsbD 0 := by
  unfold crcStep
  split
  · rename_i h
    simp only [BitVec.getLsbD_xor, BitVec.getLsbD_ushiftRight, h]
    rw [show (x.getLsbD (1 + 31)) = false from BitVec.getLsbD_of_ge _ _ (by omega)]
    decide
  · rename_i h
    simp only [BitVec.getLsbD_ushiftRight]
    rw [show (x.getLsbD (1 + 31)) = false from BitVec.getLsbD_of_ge _ _ (by omega)]
    simpa using h
theorem crcStep_inj {x y : Reg} (h : crcStep x = crcStep y) : x = y := by
  have h0 : x.getLsbD 0 = y.getLsbD 0 := by rw [← crcStep_top, ← crcStep_top, h]
  have h1 : x >>> 1 = y >>> 1 := by
    unfold crcStep at h
    rw [h0] at h
    split at h
    · have := congrArg (· ^^^ 0xEDB88320#32) h
      simpa [BitVec.xor_assoc] using this
    · exact h
  apply BitVec.eq_of_getLsbD_eq
  intro i hi
  cases i with
  | zero => exact h0
  | succ i =>
    have := congrArg (fun z => z.getLsbD i) h1
    simp only [BitVec.getLsbD_ushiftRight] at this
    rwa [Nat.add_comm 1 i] at this
theorem crcSteps_inj (n : Nat) : ∀ {x y : Reg}, crcSteps n x = crcSteps n y → x = y := by
  induction n with
  | zero => intro x y h; exact h
  | succ n ih => intro x y h; exact crcStep_inj (ih h)
/-- The register behind k bits. -/
def crcReg (f : Nat → Bool) (r : Reg) : Nat → Reg
  | 0 => r
  | k + 1 => crcStep (crcReg f r k ^^^ (BitVec.ofBool (f k)).setWidth 32)
theorem crcReg_congr {f g : Nat → Bool} {r : Reg} : ∀ {k : Nat}, (∀ i, i < k → f i = g i) → crcReg f r k = crcReg g r k
  | 0, _ => rfl
  | k + 1, h => by
    show crcStep (crcReg f r k ^^^ _) = crcStep (crcReg g r k ^^^ _)
    rw [crcReg_congr (k := k) fun i hi => h i (by omega), h k (by omega)]
theorem crcReg_back {f g : Nat → Bool} {r : Reg} {k : Nat} : ∀ {j : Nat}, (∀ i, k ≤ i → f i = g i) → crcReg f r (k + j) = crcReg g r (k + j) → crcReg f r k = crcReg g r k
  | 0, _, e => e
  | j + 1, h, e => by
    have e1 := crcStep_inj (show crcStep (crcReg f r (k + j) ^^^ (BitVec.ofBool (f (k + j))).setWidth 32) = crcStep (crcReg g r (k + j) ^^^ (BitVec.ofBool (g (k + j))).setWidth 32) from e)
    rw [h (k + j) (by omega)] at e1
    have e2 := congrArg (· ^^^ (BitVec.ofBool (g (k + j))).setWidth 32) e1
    simp only [BitVec.xor_assoc, BitVec.xor_self, BitVec.xor_zero] at e2
    exact crcReg_back h e2
/-- m bits from k on, as a word: the first is the least. -/
def crcWord (f : Nat → Bool) (k : Nat) : Nat → Reg
  | 0 => 0
  | m + 1 => crcWord f k m ^^^ ((BitVec.ofBool (f (k + m))).setWidth 32 <<< m)
theorem crcStep_shl {b : Bool} {m : Nat} (hm : m + 1 < 32) : crcStep ((BitVec.ofBool b).setWidth 32 <<< (m + 1)) = (BitVec.ofBool b).setWidth 32 <<< m := by
  have h0 : ((BitVec.ofBool b).setWidth 32 <<< (m + 1)).getLsbD 0 = false := by simp
  unfold crcStep
  rw [h0]
  simp only [Bool.false_eq_true, if_false]
  apply BitVec.eq_of_getLsbD_eq
  intro i hi
  simp only [BitVec.getLsbD_ushiftRight, BitVec.getLsbD_shiftLeft, BitVec.getLsbD_setWidth]
  by_cases h : i < m
  · simp [h]; omega
  · by_cases h2 : i = m
    · subst h2
      rw [show 1 + i - (i + 1) = 0 by omega, show i - i = 0 by omega, decide_eq_true (show 1 + i < 32 by omega), decide_eq_true hi, decide_eq_false (show ¬ 1 + i < i + 1 by omega), decide_eq_false h]
    · have : ∀ j, 0 < j → (BitVec.ofBool b).getLsbD j = false := fun j hj => BitVec.getLsbD_of_ge _ _ hj
      rw [this (1 + i - (m + 1)) (by omega), this (i - m) (by omega)]; simp
theorem crcSteps_shl {b : Bool} : ∀ {m : Nat}, m < 32 → crcSteps m ((BitVec.ofBool b).setWidth 32 <<< m) = (BitVec.ofBool b).setWidth 32
  | 0, _ => by simp [crcSteps]
  | m + 1, h => by
    show crcSteps m (crcStep _) = _
    rw [crcStep_shl h]; exact crcSteps_shl (by omega)
theorem crcReg_word {f : Nat → Bool} {r : Reg} {k : Nat} : ∀ {m : Nat}, m ≤ 32 → crcReg f r (k + m) = crcSteps m (crcReg f r k ^^^ crcWord f k m)
  | 0, _ => by simp [crcSteps, crcWord]
  | m + 1, h => by
    show crcStep (crcReg f r (k + m) ^^^ (BitVec.ofBool (f (k + m))).setWidth 32) = _
    rw [crcReg_word (m := m) (by omega), show m + 1 = m + 1 from rfl, crcSteps_add m 1]
    show crcStep _ = crcStep _
    congr 1
    rw [crcWord, ← BitVec.xor_assoc, crcSteps_xor m (crcReg f r k ^^^ crcWord f k m), crcSteps_shl (by omega)]
theorem crcWord_bit {f : Nat → Bool} {k : Nat} : ∀ {m i : Nat}, i < 32 → (crcWord f k m).getLsbD i = (decide (i < m) && f (k + i))
  | 0, i, _ => by simp [crcWord]
  | m + 1, i, hi => by
    rw [crcWord, BitVec.getLsbD_xor, crcWord_bit hi, BitVec.getLsbD_shiftLeft, BitVec.getLsbD_setWidth]
    by_cases h : i < m
    · simp [h, Nat.lt_succ_of_lt h]
    · by_cases h2 : i = m
      · subst h2; simp [hi]
      · have h3 : (BitVec.ofBool (f (k + m))).getLsbD (i - m) = false := BitVec.getLsbD_of_ge _ _ (by omega)
        have h4 : ¬ i < m + 1 := by omega
        rw [h3]; simp [h, h4]
/-- Bits that turn, at most 32 in order from one another, are told. -/
theorem crcReg_burst {f g : Nat → Bool} {r : Reg} {n k : Nat} (h : ∀ i, (i < k ∨ k + 32 ≤ i) → f i = g i) (e : crcReg f r n = crcReg g r n) : ∀ i, i < n → f i = g i := by
  intro i hi
  by_cases hk : n ≤ k
  · exact h i (by omega)
  obtain ⟨m, hm, hm2⟩ : ∃ m, m ≤ 32 ∧ ((k + m = n) ∨ (m = 32 ∧ k + m ≤ n)) := by
    by_cases h2 : n ≤ k + 32
    · exact ⟨n - k, by omega, .inl (by omega)⟩
    · exact ⟨32, by omega, .inr ⟨rfl, by omega⟩⟩
  have e1 : crcReg f r (k + m) = crcReg g r (k + m) := by
    rcases hm2 with h2 | ⟨h2, h3⟩
    · rw [h2]; exact e
    · obtain ⟨j, hj⟩ : ∃ j, n = (k + m) + j := ⟨n - (k + m), by omega⟩
      rw [hj] at e
      exact crcReg_back (k := k + m) (fun i hi => h i (by omega)) e
  have e0 : crcReg f r k = crcReg g r k := crcReg_congr fun i hi => h i (by omega)
  rw [crcReg_word hm, crcReg_word hm, e0] at e1
  have e2 := congrArg (crcReg g r k ^^^ ·) (crcSteps_inj m e1)
  simp only [← BitVec.xor_assoc, BitVec.xor_self, BitVec.zero_xor] at e2
  by_cases h4 : i < k
  · exact h i (.inl h4)
  by_cases h5 : k + m ≤ i
  · exact h i (by omega)
  have e3 := congrArg (fun z => z.getLsbD (i - k)) e2
  simp only [crcWord_bit (show i - k < 32 by omega)] at e3
  rw [show k + (i - k) = i by omega, decide_eq_true (show i - k < m by omega)] at e3
  simpa using e3
/-! ### Bytes -/
def bitAt (l : List UInt8) (i : Nat) : Bool := (l.getD (i / 8) 0).toBitVec.getLsbD (i % 8)
def byteStep (x : Reg) (c : UInt8) : Reg := crcSteps 8 (x ^^^ c.toBitVec.setWidth 32)
def crcRun (r : Reg) (l : List UInt8) : Reg := l.foldl byteStep r
def crcOnes : Reg := 4294967295#32
def crcOf (l : List UInt8) : Reg := crcRun crcOnes l ^^^ crcOnes
def fourB (x : Reg) : List UInt8 := (List.range 4).map fun k => UInt8.ofBitVec ((x >>> (8 * k)).setWidth 8)
theorem fourB_length (x : Reg) : (fourB x).length = 4 := by simp [fourB]
theorem crcWord_byte (l : List UInt8) (k : Nat) : crcWord (bitAt l) (8 * k) 8 = (l.getD k 0).toBitVec.setWidth 32 := by
  apply BitVec.eq_of_getLsbD_eq
  intro i hi
  rw [crcWord_bit hi, BitVec.getLsbD_setWidth, decide_eq_true hi, Bool.true_and]
  by_cases h : i < 8
  · unfold bitAt
    rw [decide_eq_true h, show (8 * k + i) / 8 = k by omega, show (8 * k + i) % 8 = i by omega]; rfl
  · rw [decide_eq_false h, BitVec.getLsbD_of_ge _ _ (by omega)]; rfl
theorem crcReg_run (l : List UInt8) (r : Reg) : ∀ k, k ≤ l.length → crcReg (bitAt l) r (8 * k) = crcRun r (l.take k)
  | 0, _ => by simp [crcReg, crcRun]
  | k + 1, h => by
    rw [show 8 * (k + 1) = 8 * k + 8 by omega, crcReg_word (by omega), crcReg_run l r k (by omega), crcWord_byte, List.take_succ_eq_append_getElem (by omega)]
    unfold crcRun
    rw [List.foldl_append, List.getD_eq_getElem?_getD, List.getElem?_eq_getElem (by omega)]; rfl
theorem bitAt_four (x : Reg) (i : Nat) (hi : i < 32) : bitAt (fourB x) i = x.getLsbD i := by
  unfold bitAt fourB
  have h : i / 8 < 4 := by omega
  rw [List.getD_eq_getElem?_getD, List.getElem?_map, List.getElem?_range h]
  show ((x >>> (8 * (i / 8))).setWidth 8).getLsbD (i % 8) = _
  rw [BitVec.getLsbD_setWidth, BitVec.getLsbD_ushiftRight, decide_eq_true (show i % 8 < 8 by omega), Bool.true_and, show 8 * (i / 8) + i % 8 = i by omega]
theorem crcRun_four (r x : Reg) : crcRun r (fourB x) = crcSteps 32 (r ^^^ x) := by
  have h := crcReg_run (fourB x) r 4 (by rw [fourB_length]; omega)
  rw [List.take_of_length_le (by rw [fourB_length]; omega)] at h
  rw [← h, show 8 * 4 = 0 + 32 from rfl, crcReg_word (by omega)]
  show crcSteps 32 (r ^^^ _) = _
  congr 2
  apply BitVec.eq_of_getLsbD_eq
  intro i hi
  rw [crcWord_bit hi, decide_eq_true hi, Nat.zero_add, bitAt_four x i hi, Bool.true_and]
theorem crcRun_append (r : Reg) (a b : List UInt8) : crcRun r (a ++ b) = crcRun (crcRun r a) b := List.foldl_append ..
theorem crcRun_sealed (l : List UInt8) : crcRun crcOnes (l ++ fourB (crcOf l)) = crcSteps 32 crcOnes := by
  rw [crcRun_append, crcRun_four]; unfold crcOf
  rw [← BitVec.xor_assoc, BitVec.xor_self, BitVec.zero_xor]
theorem bits_eq {x y : List UInt8} (hl : x.length = y.length) (h : ∀ i, i < 8 * x.length → bitAt x i = bitAt y i) : x = y := by
  apply List.ext_getElem hl
  intro k h1 h2
  apply UInt8.toBitVec_inj.1
  apply BitVec.eq_of_getLsbD_eq
  intro i hi
  have := h (8 * k + i) (by omega)
  unfold bitAt at this
  rw [show (8 * k + i) / 8 = k by omega, show (8 * k + i) % 8 = i by omega, List.getD_eq_getElem?_getD, List.getD_eq_getElem?_getD, List.getElem?_eq_getElem h1, List.getElem?_eq_getElem h2] at this
  exact this
def sealB (l : List UInt8) : List UInt8 := l ++ fourB (crcOf l)
def goodB (l : List UInt8) : Bool := decide (4 ≤ l.length ∧ l = sealB (l.take (l.length - 4)))
theorem goodB_seal (l : List UInt8) : goodB (sealB l) = true := by
  unfold goodB
  have h : (sealB l).length = l.length + 4 := by simp [sealB, fourB_length]
  rw [decide_eq_true_eq, h, Nat.add_sub_cancel]
  refine ⟨by omega, ?_⟩
  rw [show (sealB l).take l.length = l by simp [sealB]]
/-- What is sealed is good no more if bits of it turn, at most 32 in order from one another. -/
theorem goodB_burst {l x : List UInt8} {k : Nat} (hl : x.length = (sealB l).length) (h : ∀ i, (i < k ∨ k + 32 ≤ i) → bitAt x i = bitAt (sealB l) i) : goodB x = decide (x = sealB l) := by
  rw [Bool.eq_iff_iff, decide_eq_true_eq]
  constructor
  · intro hg
    simp only [goodB, decide_eq_true_eq] at hg
    obtain ⟨h4, hx⟩ := hg
    refine bits_eq hl ?_
    refine crcReg_burst (f := bitAt x) (g := bitAt (sealB l)) (r := crcOnes) (k := k) h ?_
    rw [crcReg_run x crcOnes _ (Nat.le_refl _), List.take_of_length_le (Nat.le_refl _)]
    rw [hl, crcReg_run (sealB l) crcOnes _ (Nat.le_refl _), List.take_of_length_le (Nat.le_refl _)]
    rw [hx]
    exact (crcRun_sealed _).trans (crcRun_sealed l).symm
  · intro e; rw [e]; exact goodB_seal l
/-- The table's way. -/
theorem crcSteps_shift (y : Reg) : ∀ m, m ≤ 8 → (∀ i, 24 ≤ i → y.getLsbD i = false) → crcSteps m (y <<< m) = y
  | 0, _, _ => by simp [crcSteps]
  | m + 1, hm, h => by
    have e : crcStep (y <<< (m + 1)) = y <<< m := by
      have h0 : (y <<< (m + 1)).getLsbD 0 = false := by simp
      unfold crcStep
      rw [h0]
      simp only [Bool.false_eq_true, if_false]
      apply BitVec.eq_of_getLsbD_eq
      intro i hi
      simp only [BitVec.getLsbD_ushiftRight, BitVec.getLsbD_shiftLeft]
      by_cases h1 : i < m
      · rw [decide_eq_true h1, decide_eq_true (show 1 + i < m + 1 by omega)]; simp
      · rw [decide_eq_false h1, decide_eq_false (show ¬ 1 + i < m + 1 by omega), show 1 + i - (m + 1) = i - m by omega, decide_eq_true hi]
        by_cases h2 : 1 + i < 32
        · rw [decide_eq_true h2]
        · rw [h (i - m) (by omega)]; simp
    show crcSteps m (crcStep _) = y
    rw [e]; exact crcSteps_shift y m (by omega) h
def rowOf (i : BitVec 8) : Reg := crcSteps 8 (i.setWidth 32)
theorem byteStep_row (x : Reg) (c : UInt8) : byteStep x c = (x >>> 8) ^^^ rowOf (x.setWidth 8 ^^^ c.toBitVec) := by
  unfold byteStep rowOf
  have e : x ^^^ c.toBitVec.setWidth 32 = ((x >>> 8) <<< 8) ^^^ (x.setWidth 8 ^^^ c.toBitVec).setWidth 32 := by
    apply BitVec.eq_of_getLsbD_eq
    intro i hi
    simp only [BitVec.getLsbD_xor, BitVec.getLsbD_setWidth, BitVec.getLsbD_shiftLeft, BitVec.getLsbD_ushiftRight, decide_eq_true hi, Bool.true_and]
    by_cases h : i < 8
    · simp [h]
    · rw [BitVec.getLsbD_of_ge c.toBitVec i (by omega), show 8 + (i - 8) = i by omega]; simp [h]
  rw [e, crcSteps_xor, crcSteps_shift (x >>> 8) 8 (by omega)]
  intro i hi
  rw [BitVec.getLsbD_ushiftRight, BitVec.getLsbD_of_ge _ _ (by omega)]
end Sh
