/- Bits that turn, told exactly; sherdref05.Turn. -/
import Derived.Test.YtdkkadpcgemefaaCrcRef
set_option linter.unusedVariables false
set_option linter.unusedSimpArgs false
namespace Sh
open Go Go.RowKit Go.Proofs
attribute [local go_sem ↓] Go.wp_at_zero Go.wp_at_succ
set_option maxHeartbeats 1000000
set_option maxRecDepth 100000

def flipB (y : UInt8) (r : Nat) : UInt8 := y ^^^ UInt8.ofNat (2 ^ r)
theorem flip_exact (y : UInt8) (r : Nat) (hr : r < 8) : bits .xor .u8 (y.toNat : Int) ((2 ^ r : Nat) : Int) = ((flipB y r).toNat : Int) := by
  show IntKind.u8.wrap (((BitVec.ofInt 8 (bn y.toBitVec)) ^^^ (BitVec.ofInt 8 ((2 ^ r : Nat) : Int))).toNat : Int) = _
  rw [ofInt8, wrap8, BitVec.ofInt_natCast]; rfl
def turnN (b : List UInt8) (first : Int) (mask : Reg) : Nat → List UInt8
  | 0 => b
  | j + 1 => if (mask >>> j).getLsbD 0 = true ∧ 0 ≤ first ∧ first ≤ 8 * (b.length : Int) - 1 - j then (turnN b first mask j).set ((first.toNat + j) / 8) (flipB ((turnN b first mask j).getD ((first.toNat + j) / 8) 0) ((first.toNat + j) % 8)) else turnN b first mask j
def turnL (b : List UInt8) (first : Int) (mask : Reg) : List UInt8 := turnN b first mask 32
theorem turnN_len (b : List UInt8) (first : Int) (mask : Reg) : ∀ j, (turnN b first mask j).length = b.length
  | 0 => rfl
  | j + 1 => by
    rw [turnN]; split
    · rw [List.length_set, turnN_len]
    · exact turnN_len b first mask j
theorem turnL_len (b : List UInt8) (first : Int) (mask : Reg) : (turnL b first mask).length = b.length := turnN_len ..
theorem turnN_skip {b : List UInt8} {first : Int} {mask : Reg} {j : Nat} (h : ¬ ((mask >>> j).getLsbD 0 = true ∧ 0 ≤ first ∧ first ≤ 8 * (b.length : Int) - 1 - j)) : turnN b first mask (j + 1) = turnN b first mask j := by rw [turnN, if_neg h]
theorem turnN_go {b : List UInt8} {first : Int} {mask : Reg} {j : Nat} (h : (mask >>> j).getLsbD 0 = true ∧ 0 ≤ first ∧ first ≤ 8 * (b.length : Int) - 1 - j) : turnN b first mask (j + 1) = (turnN b first mask j).set ((first.toNat + j) / 8) (flipB ((turnN b first mask j).getD ((first.toNat + j) / 8) 0) ((first.toNat + j) % 8)) := by rw [turnN, if_pos h]
theorem turnN_stop {b : List UInt8} {first : Int} {mask : Reg} {j : Nat} (h : ¬ first ≤ 8 * (b.length : Int) - 1 - j) : ∀ n, turnN b first mask (j + n) = turnN b first mask j
  | 0 => rfl
  | n + 1 => by rw [← Nat.add_assoc, turnN_skip (by omega), turnN_stop h n]
theorem turn_exact {w : World} {R : Snap} {L : Asrt} {v : Value} {b : List UInt8} {first : Int} {mask : Reg} (H : Holds w R L) (hr : RdB R.cell? v b) (hb : b.length ≤ 1000000) (hf : -9223372036854775808 ≤ first ∧ first ≤ 9223372036854775807) :
    Calls Try.prog 71 #[v, .int .i64 first, .int .u32 (tn mask)] w fun e w' => ∃ o, e = .returned o ∧ Holds w' R (star (rowB o (turnL b first mask)) L) := by
  obtain ⟨a, c, rfl⟩ := hr.form
  go_enter Try.func71, Try.ntmps71
  go_wp2_with (with_reducible refine stop_append ?_)
  refine Hold.go (wpList_appendB rfl _ _ rfl rfl rfl (freshB H) (hr.world (H.garbage _)) (by simp only [List.length_nil]; omega) ?_)
  intro v2 w2 H2
  rw [List.nil_append] at H2
  go_wp2_with fail
  obtain ⟨ao, co, rfl⟩ := H2.rowRd.form
  go_loopw [8] (fun i wx => ∃ (j : Nat), i = .int .i64 j ∧ j ≤ 32 ∧ Holds wx R (star (row tU8 1 (.slice ao b.length co) b.length (u8s (turnN b first mask j))) L)) (fun i _ => 32 - (intOf i).toNat)
  case atStart => exact ⟨0, rfl, Nat.zero_le _, H2⟩
  case round =>
    clear H2
    obtain ⟨j, rfl, hj, H6⟩ := hrel
    have hxl := turnN_len b first mask j
    by_cases hlt : j < 32
    · have hs : tn mask / (2 : Int) ^ j = tn (mask >>> j) := shr32 mask j
      have ha := and1 (mask >>> j)
      have hsk : ¬ ((mask >>> j).getLsbD 0 = true ∧ 0 ≤ first ∧ first ≤ 8 * (b.length : Int) - 1 - j) → turnN b first mask (j + 1) = turnN b first mask j := turnN_skip
      have hgo : ((mask >>> j).getLsbD 0 = true ∧ 0 ≤ first ∧ first ≤ 8 * (b.length : Int) - 1 - j) → turnN b first mask (j + 1) = _ := turnN_go
      obtain ⟨x, hx⟩ : ∃ x, x = turnN b first mask j := ⟨_, rfl⟩
      rw [← hx] at hxl H6 hsk hgo
      clear hx
      have HSK := Hid.mk' hsk
      have HGO := Hid.mk' hgo
      clear hsk hgo
      by_cases hskip : (mask >>> j).getLsbD 0 = false ∨ first < 0 ∨ 8 * (b.length : Int) - 1 - j < first
      · by_cases hm0 : (mask >>> j).getLsbD 0 = true
        · rw [hm0, if_pos rfl] at ha
          by_cases hf0 : first < 0
          · have t1 : (decide (first < 0)) = true := by simpa using hf0
            have hs2 := HSK.out (by omega)
            have HS2 := Hid.mk' hs2
            clear hskip hm0 hs2
            go_wp2_with fail
            go_roundw
            case rel => exact ⟨j + 1, by go_num, hlt, by rw [HS2.out]; exact H6⟩
            case measure => simp [intOf]; omega
          · have hf1 : 8 * (b.length : Int) - 1 - j < first := by
              rcases hskip with h | h | h
              · rw [h] at hm0; cases hm0
              · exact absurd h hf0
              · exact h
            have t1 : (decide (first < 0)) = false := by simpa using hf0
            have t2 : (decide (8 * (b.length : Int) - 1 - j < first)) = true := by simpa using hf1
            have hs2 := HSK.out (by omega)
            have HS2 := Hid.mk' hs2
            clear hskip hm0 hs2
            go_wp2_with fail
            go_roundw
            case rel => exact ⟨j + 1, by go_num, hlt, by rw [HS2.out]; exact H6⟩
            case measure => simp [intOf]; omega
        · rw [if_neg hm0] at ha
          have hs2 := HSK.out (fun h => hm0 h.1)
          have HS2 := Hid.mk' hs2
          clear hskip hm0 hs2
          go_wp2_with fail
          go_roundw
          case rel => exact ⟨j + 1, by go_num, hlt, by rw [HS2.out]; exact H6⟩
          case measure => simp [intOf]; omega
      · obtain ⟨hm1, hf0, hf1⟩ : (mask >>> j).getLsbD 0 = true ∧ 0 ≤ first ∧ first ≤ 8 * (b.length : Int) - 1 - j := by
          refine ⟨?_, by omega, by omega⟩
          cases h : (mask >>> j).getLsbD 0 with
          | true => rfl
          | false => exact absurd (.inl h) hskip
        have hgo := HGO.out ⟨hm1, hf0, hf1⟩
        rw [hm1, if_pos rfl] at ha
        obtain ⟨f, rfl⟩ : ∃ f : Nat, first = f := ⟨first.toNat, by omega⟩
        obtain ⟨m, hm⟩ : ∃ m, m = f + j := ⟨_, rfl⟩
        obtain ⟨k, hk⟩ : ∃ k, k = m / 8 := ⟨_, rfl⟩
        obtain ⟨r, hrr⟩ : ∃ r, r = m % 8 := ⟨_, rfl⟩
        have hat : (f : Int) + (j : Int) = (m : Int) := by omega
        have hq : (m : Int).tdiv 8 = (k : Int) := by rw [Int.tdiv_eq_ediv_of_nonneg (by omega)]; omega
        have hrm : (m : Int).tmod 8 = (r : Int) := by rw [Int.tmod_eq_emod_of_nonneg (by omega)]; omega
        have hkl : k < b.length := by omega
        have hr8 : r < 8 := by omega
        have t1 : (decide ((f : Int) < 0)) = false := by simp
        have t2 : (decide (8 * (b.length : Int) - 1 - j < f)) = false := by simp; omega
        rw [Int.toNat_natCast, ← hm, ← hk, ← hrr] at hgo
        have HGO2 := Hid.mk' hgo
        clear hskip hm1 hm hk hrr hgo HGO HSK
        obtain ⟨g, cap, e1, hc, hg2, hcl, hfz⟩ := H6.rowAt (by omega)
        simp only [Value.slice.injEq, true_and] at e1
        obtain ⟨rfl, rfl⟩ := e1
        have hkx : k < x.length := by rw [hxl]; exact hkl
        have ck := hcl k (.int .u8 (x[k].toNat : Int)) (by rw [u8s, List.getElem?_map, List.getElem?_eq_getElem hkx]; rfl)
        have fk := hfz k
        have hy : x.getD k 0 = x[k] := by rw [List.getD_eq_getElem?_getD, List.getElem?_eq_getElem hkx]; rfl
        have hz := flip_exact (x.getD k 0) r hr8
        rw [← hy] at ck
        have hgo := HGO2.out
        generalize x.getD k 0 = y at hz ck hgo
        generalize flipB y r = z at hz hgo
        have HGO3 := Hid.mk' hgo
        have i1 : (0 : Int) ≤ (k : Int) := by omega
        have i2 : (k : Int) < (b.length : Int) := by omega
        have wk : IntKind.i64.wrap (k : Int) = (k : Int) := IntWalk.i64_in _ (by omega)
        clear hcl hfz hy hgo HGO2
        have hfin : ∀ w', w' = wr.drew.setCell ⟨g, k, none⟩ (.int .u8 (z.toNat : Int)) → Holds w' R (star (row tU8 1 (.slice (some ⟨g, 0, none⟩) b.length co) b.length (u8s (turnN b (f : Int) mask (j + 1)))) L) := by
          rintro w' rfl
          rw [HGO3.out]
          have h := row_write H6.drew k (z.toNat : Int) hkl (by have := u8_lt z; omega)
          rw [Int.toNat_natCast, show UInt8.ofNat z.toNat = z by simp] at h
          exact h
        have HF := Hid.mk' hfin
        clear hfin
        rcases (by omega : r = 0 ∨ r = 1 ∨ r = 2 ∨ r = 3 ∨ r = 4 ∨ r = 5 ∨ r = 6 ∨ r = 7) with rfl | rfl | rfl | rfl | rfl | rfl | rfl | rfl
        · have hz2 : bits .xor .u8 (y.toNat : Int) 1 = (z.toNat : Int) := hz
          clear hz
          go_wp2_with fail
          go_still_tail 13, (by kernel_rfl)
          change wpList _ _ _ _ _ wr.drew
          go_wp2_with fail
          go_roundw
          case rel => exact ⟨j + 1, by go_num, hlt, HF.out _ rfl⟩
          case measure => simp [intOf]; omega
        · have hz2 : bits .xor .u8 (y.toNat : Int) 2 = (z.toNat : Int) := hz
          clear hz
          go_wp2_with fail
          go_still_tail 13, (by kernel_rfl)
          change wpList _ _ _ _ _ wr.drew
          go_wp2_with fail
          go_roundw
          case rel => exact ⟨j + 1, by go_num, hlt, HF.out _ rfl⟩
          case measure => simp [intOf]; omega
        · have hz2 : bits .xor .u8 (y.toNat : Int) 4 = (z.toNat : Int) := hz
          clear hz
          go_wp2_with fail
          go_still_tail 13, (by kernel_rfl)
          change wpList _ _ _ _ _ wr.drew
          go_wp2_with fail
          go_roundw
          case rel => exact ⟨j + 1, by go_num, hlt, HF.out _ rfl⟩
          case measure => simp [intOf]; omega
        · have hz2 : bits .xor .u8 (y.toNat : Int) 8 = (z.toNat : Int) := hz
          clear hz
          go_wp2_with fail
          go_still_tail 13, (by kernel_rfl)
          change wpList _ _ _ _ _ wr.drew
          go_wp2_with fail
          go_roundw
          case rel => exact ⟨j + 1, by go_num, hlt, HF.out _ rfl⟩
          case measure => simp [intOf]; omega
        · have hz2 : bits .xor .u8 (y.toNat : Int) 16 = (z.toNat : Int) := hz
          clear hz
          go_wp2_with fail
          go_still_tail 13, (by kernel_rfl)
          change wpList _ _ _ _ _ wr.drew
          go_wp2_with fail
          go_roundw
          case rel => exact ⟨j + 1, by go_num, hlt, HF.out _ rfl⟩
          case measure => simp [intOf]; omega
        · have hz2 : bits .xor .u8 (y.toNat : Int) 32 = (z.toNat : Int) := hz
          clear hz
          go_wp2_with fail
          go_still_tail 13, (by kernel_rfl)
          change wpList _ _ _ _ _ wr.drew
          go_wp2_with fail
          go_roundw
          case rel => exact ⟨j + 1, by go_num, hlt, HF.out _ rfl⟩
          case measure => simp [intOf]; omega
        · have hz2 : bits .xor .u8 (y.toNat : Int) 64 = (z.toNat : Int) := hz
          clear hz
          go_wp2_with fail
          go_still_tail 13, (by kernel_rfl)
          change wpList _ _ _ _ _ wr.drew
          go_wp2_with fail
          go_roundw
          case rel => exact ⟨j + 1, by go_num, hlt, HF.out _ rfl⟩
          case measure => simp [intOf]; omega
        · have hz2 : bits .xor .u8 (y.toNat : Int) 128 = (z.toNat : Int) := hz
          clear hz
          go_wp2_with fail
          go_still_tail 13, (by kernel_rfl)
          change wpList _ _ _ _ _ wr.drew
          go_wp2_with fail
          go_roundw
          case rel => exact ⟨j + 1, by go_num, hlt, HF.out _ rfl⟩
          case measure => simp [intOf]; omega
    · go_wp2_with fail
      go_ret
      obtain rfl : j = 32 := by omega
      exact ⟨_, rfl, by unfold rowB turnL; rw [hxl]; exact H6⟩
end Sh
