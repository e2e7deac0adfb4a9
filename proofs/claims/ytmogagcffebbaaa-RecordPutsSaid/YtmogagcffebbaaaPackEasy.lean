/- The readers where enough is left; numbers and their bytes. -/
import Derived.Test.YtmogagcffebbaaaPackRef
set_option linter.unusedVariables false
set_option linter.unusedSimpArgs false
namespace Sh
open Go Go.RowKit Go.Proofs
attribute [local go_sem ↓] Go.wp_at_zero Go.wp_at_succ
set_option maxHeartbeats 1000000
set_option maxRecDepth 100000

theorem cut_yes {rest : List UInt8} {n : Nat} (h : n ≤ rest.length) : cutOk rest false n = true ∧ cutOut rest false n = rest.take n ∧ cutRest rest false n = rest.drop n := by
  have e : cutOk rest false n = true := by simp [cutOk, h]
  exact ⟨e, by simp [cutOut, e], by simp [cutRest, e]⟩
theorem rnum_yes {w : World} {R : Snap} {L : Asrt} {p : Nat} {v : Value} {rest : List UInt8} {k : Int} (H : Holds w R (star (blk p #[v, .bool false] 211) L)) (hr : RdB R.cell? v rest) (hk : wid k ≤ rest.length) :
    Calls Try.prog 127 #[.pointer (some ⟨p, 0, none⟩), .int .i64 k] w fun e w' => ∃ v', e = .returned (.int .i64 (valB (rest.take (wid k)))) ∧ Holds w' R (star (blk p #[v', .bool false] 211) L) ∧ RdB R.cell? v' (rest.drop (wid k)) := by
  obtain ⟨e1, e2, e3⟩ := cut_yes hk
  have h := rnum_spec (k := k) H hr
  rw [e1, e2, e3] at h
  exact h
theorem refrnum_yes {w : World} {R : Snap} {L : Asrt} {p at_ : Nat} {v : Value} {b : List UInt8} {k : Int} (H : Holds w R (star (blk p #[v, .int .i64 at_, .bool false] 167) L)) (hr : RdB R.cell? v b) (hk : at_ + wid k ≤ b.length) (hb : b.length ≤ 1000000) :
    Calls Try.prog 137 #[.pointer (some ⟨p, 0, none⟩), .int .i64 k] w fun e w' => e = .returned (.int .i64 (valB ((b.drop at_).take (wid k)))) ∧ Holds w' R (star (blk p #[v, .int .i64 (at_ + wid k : Nat), .bool false] 167) L) := by
  have hk2 : wid k ≤ (b.drop at_).length := by rw [List.length_drop]; omega
  obtain ⟨e1, e2, e3⟩ := cut_yes hk2
  have h := refrnum_spec (k := k) H hr (by omega) hb
  rw [e1, e2] at h
  rw [show cutAt b at_ false (wid k) = at_ + wid k from by simp [cutAt, e1]] at h
  exact h
theorem be_succ (k n : Nat) : be (k + 1) n = UInt8.ofNat (n / 256 ^ k) :: be k n := by
  unfold be
  rw [List.range_succ_eq_map, List.map_cons, List.map_map]
  congr 1
  apply List.map_congr_left
  intro i hi
  simp only [Function.comp_def]
  rw [show k + 1 - 1 - (i + 1) = k - 1 - i by omega]
theorem be_mod (k n m : Nat) (h : n % 256 ^ k = m % 256 ^ k) : be k n = be k m := by
  unfold be
  apply List.map_congr_left
  intro i hi
  have hi := List.mem_range.1 hi
  apply UInt8.toNat_inj.1
  simp only [UInt8.toNat_ofNat']
  have e : ∀ x : Nat, x / 256 ^ (k - 1 - i) % 2 ^ 8 = x % 256 ^ k / 256 ^ (k - 1 - i) % 256 := fun x => by
    have : 256 ^ k = 256 ^ (k - 1 - i) * (256 * 256 ^ i) := by rw [← Nat.pow_succ', ← Nat.pow_add]; congr 1; omega
    rw [this, Nat.mod_mul_right_div_self, Nat.mod_mul_right_mod]
  rw [e n, e m, h]
theorem valB_cons_aux : ∀ (l : List UInt8) (a : Nat), l.foldl (fun a c => a * 256 + c.toNat) a = a * 256 ^ l.length + valB l
  | [], a => by simp [valB]
  | c :: l, a => by
    have h2 : valB (c :: l) = (0 * 256 + c.toNat) * 256 ^ l.length + valB l := valB_cons_aux l (0 * 256 + c.toNat)
    rw [List.foldl_cons, valB_cons_aux l, h2, List.length_cons, Nat.pow_succ, Nat.zero_mul, Nat.zero_add, Nat.add_mul]
    rw [Nat.mul_assoc, Nat.mul_comm 256, Nat.add_assoc]
theorem valB_cons (c : UInt8) (l : List UInt8) : valB (c :: l) = c.toNat * 256 ^ l.length + valB l := by
  rw [valB, List.foldl_cons, valB_cons_aux]; simp
/-- A number's bytes of bytes that were read as a number. -/
theorem be_valB : ∀ l : List UInt8, be l.length (valB l) = l
  | [] => rfl
  | c :: l => by
    rw [List.length_cons, be_succ, valB_cons]
    have h := valB_lt l
    congr 1
    · rw [Nat.add_comm, Nat.add_mul_div_right _ _ (Nat.pow_pos (by decide)), Nat.div_eq_of_lt h, Nat.zero_add]; simp
    · rw [be_mod l.length (c.toNat * 256 ^ l.length + valB l) (valB l) (by rw [Nat.add_comm, Nat.add_mul_mod_self_right]), be_valB l]
theorem nb_valB {k : Int} {l : List UInt8} (h : l.length = wid k) : nb k (valB l) = l := by
  rw [nb, show max ((valB l : Nat) : Int) 0 = (valB l : Nat) by omega, Int.toNat_natCast, ← h, be_valB]
theorem valB_of_be : ∀ (k n : Nat), valB (be k n) = n % 256 ^ k
  | 0, n => by simp [be, valB, Nat.mod_one]
  | k + 1, n => by
    rw [be_succ, valB_cons, be_length, valB_of_be k n, Nat.pow_succ, Nat.mod_mul]
    rw [show (UInt8.ofNat (n / 256 ^ k)).toNat = n / 256 ^ k % 256 from by simp]
    rw [Nat.mul_comm, Nat.add_comm]
theorem valB_nb {k n : Int} (h0 : 0 ≤ n) (h : n < 256 ^ wid k) : (valB (nb k n) : Int) = n := by
  rw [nb, valB_of_be, Nat.mod_eq_of_lt (by
    have : ((max n 0).toNat : Int) = n := by omega
    have h2 : ((256 ^ wid k : Nat) : Int) = 256 ^ wid k := by norm_cast
    omega)]
  omega
end Sh
