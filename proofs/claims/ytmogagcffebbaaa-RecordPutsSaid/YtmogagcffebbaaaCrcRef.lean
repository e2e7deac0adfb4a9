/- sherdref05's contracts. -/
import Derived.Test.YtmogagcffebbaaaCrc
set_option linter.unusedVariables false
set_option linter.unusedSimpArgs false
namespace Sh
open Go Go.RowKit Go.Proofs
attribute [local go_sem ↓] Go.wp_at_zero Go.wp_at_succ
set_option maxHeartbeats 1000000
set_option maxRecDepth 100000

def bitsOf (c : UInt8) (i : Nat) : Bool := c.toBitVec.getLsbD i
theorem byte_bits (r : Reg) (c : UInt8) : crcReg (bitsOf c) r 8 = byteStep r c := by
  rw [show (8 : Nat) = 0 + 8 from rfl, crcReg_word (by omega)]
  show crcSteps 8 (r ^^^ _) = crcSteps 8 (r ^^^ _)
  congr 2
  apply BitVec.eq_of_getLsbD_eq
  intro i hi
  rw [crcWord_bit hi, BitVec.getLsbD_setWidth, decide_eq_true hi, Bool.true_and, Nat.zero_add]
  by_cases h : i < 8
  · rw [decide_eq_true h]; rfl
  · rw [decide_eq_false h, BitVec.getLsbD_of_ge _ _ (by omega)]; rfl
theorem bit_step (y : Reg) (b : Bool) : crcStep (y ^^^ (BitVec.ofBool b).setWidth 32) = if y.getLsbD 0 = b then y >>> 1 else (y >>> 1) ^^^ 0xEDB88320#32 := by
  have h1 : (y ^^^ (BitVec.ofBool b).setWidth 32) >>> 1 = y >>> 1 := by
    rw [BitVec.ushiftRight_xor_distrib]
    have : ((BitVec.ofBool b).setWidth 32) >>> 1 = 0#32 := by cases b <;> rfl
    rw [this, BitVec.xor_zero]
  have h2 : (y ^^^ (BitVec.ofBool b).setWidth 32).getLsbD 0 = (y.getLsbD 0 ^^ b) := by
    rw [BitVec.getLsbD_xor]; congr 1; cases b <;> rfl
  unfold crcStep
  rw [h1, h2]
  cases y.getLsbD 0 <;> cases b <;> rfl
@[go_sem] theorem up32 (c : UInt8) : IntKind.u32.wrap (c.toNat : Int) = tn (c.toBitVec.setWidth 32) := by
  have h := c.toBitVec.isLt
  have e : tn (c.toBitVec.setWidth 32) = (c.toNat : Int) := by
    unfold tn; rw [BitVec.toNat_setWidth, Nat.mod_eq_of_lt (Nat.lt_trans h (by decide))]; rfl
  rw [e]
  have h2 := u8_lt c
  simp [IntKind.wrap, IntKind.bits, IntKind.signed]; omega
@[go_sem] theorem div4 (x : Reg) : tn x / (4 : Int) = tn (x >>> 2) := shr32 x 2
@[go_sem] theorem div8 (x : Reg) : tn x / (8 : Int) = tn (x >>> 3) := shr32 x 3
@[go_sem] theorem div16 (x : Reg) : tn x / (16 : Int) = tn (x >>> 4) := shr32 x 4
@[go_sem] theorem div32 (x : Reg) : tn x / (32 : Int) = tn (x >>> 5) := shr32 x 5
@[go_sem] theorem div64 (x : Reg) : tn x / (64 : Int) = tn (x >>> 6) := shr32 x 6
@[go_sem] theorem div128 (x : Reg) : tn x / (128 : Int) = tn (x >>> 7) := shr32 x 7
theorem bit_and (c : UInt8) (k : Nat) (hk : k < 8) : bits .and .u32 (tn (c.toBitVec.setWidth 32 >>> k)) 1 = if bitsOf c k then 1 else 0 := by
  rw [and1, BitVec.getLsbD_ushiftRight, BitVec.getLsbD_setWidth, decide_eq_true (show k + 0 < 32 by omega), Bool.true_and]; rfl
theorem csum_ref {w : World} {v : Value} {b : List UInt8} (hr : RdB w.cell? v b) :
    Calls Try.prog 135 #[v] w fun e w' => e = .returned (.int .u32 (tn (crcOf b))) ∧ w = w' := by
  obtain ⟨a, c, rfl⟩ := hr.form
  have hqm := Rd.max hr
  unfold maxLen at hqm
  go_enter Try.func135, Try.ntmps135
  go_wp2_with fail
  go_loop [3, 4] (fun x i => ∃ j : Nat, i = .int .i64 j ∧ j ≤ b.length ∧ x = .int .u32 (tn (crcRun crcOnes (b.take j)))) (fun _ i => b.length - (intOf i).toNat)
  case atStart => exact ⟨0, rfl, Nat.zero_le _, rfl⟩
  case round =>
    obtain ⟨j, rfl, hj, rfl⟩ := hrel
    by_cases hlt : j < b.length
    · obtain ⟨bb, ob, rfl, hc⟩ := RdB.open hr (by omega)
      have cj := hc j hlt
      have hst := crcRun_take crcOnes b j hlt
      generalize crcRun crcOnes (b.take j) = r0 at hst ⊢
      generalize b[j] = q at cj hst
      have HS := Hid.mk' hst
      clear hst hc
      go_wp2_with fail
      go_loop [3, 5] (fun x k => ∃ n : Nat, k = .int .i64 n ∧ n ≤ 8 ∧ x = .int .u32 (tn (crcReg (bitsOf q) r0 n))) (fun _ k => 8 - (intOf k).toNat)
      case atStart => exact ⟨0, rfl, Nat.zero_le _, rfl⟩
      case round =>
        obtain ⟨n, rfl, hn, rfl⟩ := hrel
        by_cases hn8 : n < 8
        · have hst : crcReg (bitsOf q) r0 (n + 1) = _ := bit_step (crcReg (bitsOf q) r0 n) (bitsOf q n)
          generalize crcReg (bitsOf q) r0 n = y at hst ⊢
          have HST := Hid.mk' hst
          clear hst
          rcases (by omega : n = 0 ∨ n = 1 ∨ n = 2 ∨ n = 3 ∨ n = 4 ∨ n = 5 ∨ n = 6 ∨ n = 7) with rfl | rfl | rfl | rfl | rfl | rfl | rfl | rfl
          all_goals
            cases h1 : y.getLsbD 0 <;> cases h2 : bitsOf q _
            all_goals
              have ha := and1 y
              have hb := bit_and q _ hn8
              rw [h1] at ha
              rw [h2] at hb
              try rw [show (q.toBitVec.setWidth 32 : Reg) >>> 0 = q.toBitVec.setWidth 32 from rfl] at hb
              have HH1 := Hid.mk' h1
              have HH2 := Hid.mk' h2
              clear h1 h2
              simp only [Bool.false_eq_true, if_false, if_true] at ha hb
              go_wp2_with fail
              go_round
              case rel => exact ⟨_ + 1, rfl, by omega, by rw [HST.out, HH1.out, HH2.out]; rfl⟩
              case measure => simp [intOf]
        · obtain rfl : n = 8 := by omega
          rw [byte_bits]
          go_wp2_with fail
          go_round
          case rel => exact ⟨j + 1, by go_num, hlt, by rw [HS.out]⟩
          case measure => simp [intOf]; omega
    · go_wp2_with fail
      go_ret
      rw [List.take_of_length_le (by omega)]
      exact ⟨rfl, rfl⟩
@[go_sem] theorem and255 (x : Reg) : bits .and .u32 (tn x) 255 = bn (x.setWidth 8) := by
  show IntKind.u32.wrap (((BitVec.ofInt 32 (tn x)) &&& 255#32).toNat : Int) = _
  rw [ofInt32, wrap32]
  unfold tn bn
  congr 1
  rw [BitVec.toNat_and, BitVec.toNat_setWidth]
  exact Nat.and_two_pow_sub_one_eq_mod _ 8
@[go_sem] theorem wrapbn (x : BitVec 8) : IntKind.u8.wrap (bn x) = bn x := wrap8 x
theorem cseal_ref {w : World} {R : Snap} {L : Asrt} {v : Value} {b : List UInt8} (H : Holds w R L) (hr : RdB R.cell? v b) (hb : b.length ≤ 1000000) :
    Calls Try.prog 58 #[v] w fun e w' => ∃ o, e = .returned o ∧ Holds w' R (star (rowB o (sealB b)) L) := by
  obtain ⟨a, c, rfl⟩ := hr.form
  go_enter Try.func58, Try.ntmps58
  go_wp2_with fail
  refine (csum_ref (hr.world H)).mono ?_
  rintro e w1 ⟨rfl, rfl⟩
  go_wp2_with (with_reducible refine stop_append ?_)
  refine Hold.go (wpList_appendB rfl _ _ rfl rfl rfl (freshB H) (hr.world (H.garbage _)) (by simp only [List.length_nil]; omega) ?_)
  intro v2 w2 H2
  rw [List.nil_append] at H2
  go_wp2_with fail
  have H5 : Holds w2 R (star (rowB v2 (b ++ (fourB (crcOf b)).take 0)) L) := by simpa using H2
  go_loopw [4, 5] (fun o i wx => ∃ j : Nat, i = .int .i64 j ∧ j ≤ 4 ∧ Holds wx R (star (rowB o (b ++ (fourB (crcOf b)).take j)) L)) (fun _ i _ => 4 - (intOf i).toNat)
  case atStart => exact ⟨0, rfl, Nat.zero_le _, H5⟩
  case round =>
    clear H2 H5
    obtain ⟨j, rfl, hj, H6⟩ := hrel
    by_cases hlt : j < 4
    · have hs := fourB_take_succ (crcOf b) hlt
      have HS := Hid.mk' hs
      have hln : (b ++ (fourB (crcOf b)).take j).length ≤ 1000010 := by
        rw [List.length_append, List.length_take, fourB_length]; omega
      clear hs
      rcases (by omega : j = 0 ∨ j = 1 ∨ j = 2 ∨ j = 3) with rfl | rfl | rfl | rfl
      · go_wp2_with (with_reducible refine stop_append ?_)
        refine Hold.go (wpList_appendB rfl _ _ rfl rfl rfl (H6.garbage _) (blkRdB (H6.alloc _ _) [fb (crcOf b) 0] rfl rfl (Nat.le_of_ble_eq_true rfl)) (by rw [List.length_singleton]; omega) ?_)
        intro v7 w7 H7
        go_wp2_with fail
        go_roundw
        case rel => exact ⟨1, rfl, by omega, by rw [HS.out, ← List.append_assoc]; exact H7⟩
        case measure => simp [intOf]
      · go_wp2_with (with_reducible refine stop_append ?_)
        refine Hold.go (wpList_appendB rfl _ _ rfl rfl rfl (H6.garbage _) (blkRdB (H6.alloc _ _) [fb (crcOf b) 1] rfl rfl (Nat.le_of_ble_eq_true rfl)) (by rw [List.length_singleton]; omega) ?_)
        intro v7 w7 H7
        go_wp2_with fail
        go_roundw
        case rel => exact ⟨2, rfl, by omega, by rw [HS.out, ← List.append_assoc]; exact H7⟩
        case measure => simp [intOf]
      · go_wp2_with (with_reducible refine stop_append ?_)
        refine Hold.go (wpList_appendB rfl _ _ rfl rfl rfl (H6.garbage _) (blkRdB (H6.alloc _ _) [fb (crcOf b) 2] rfl rfl (Nat.le_of_ble_eq_true rfl)) (by rw [List.length_singleton]; omega) ?_)
        intro v7 w7 H7
        go_wp2_with fail
        go_roundw
        case rel => exact ⟨3, rfl, by omega, by rw [HS.out, ← List.append_assoc]; exact H7⟩
        case measure => simp [intOf]
      · go_wp2_with (with_reducible refine stop_append ?_)
        refine Hold.go (wpList_appendB rfl _ _ rfl rfl rfl (H6.garbage _) (blkRdB (H6.alloc _ _) [fb (crcOf b) 3] rfl rfl (Nat.le_of_ble_eq_true rfl)) (by rw [List.length_singleton]; omega) ?_)
        intro v7 w7 H7
        go_wp2_with fail
        go_roundw
        case rel => exact ⟨4, rfl, by omega, by rw [HS.out, ← List.append_assoc]; exact H7⟩
        case measure => simp [intOf]
    · obtain rfl : j = 4 := by omega
      go_wp2_with fail
      go_ret
      exact ⟨_, rfl, H6⟩
theorem cgood_ref {w : World} {R : Snap} {L : Asrt} {v : Value} {b : List UInt8} (H : Holds w R L) (hr : RdB R.cell? v b) (hb : b.length ≤ 1000000) :
    Calls Try.prog 136 #[v] w fun e w' => e = .returned (.bool (goodB b)) ∧ Holds w' R L := by
  obtain ⟨a, c, rfl⟩ := hr.form
  by_cases h4 : 4 ≤ b.length
  · have hB := hr.bounds
    obtain ⟨n, hn⟩ : ∃ n, n = b.length - 4 := ⟨_, rfl⟩
    have hbn : b.length = n + 4 := by omega
    have hbz : (b.length : Int) - 4 = n := by omega
    have i1 : (0 : Int) ≤ (n : Int) := by omega
    have i2 : (n : Int) ≤ (c : Int) := by omega
    have hpre := RdB.pre hr n (by omega)
    have t0 : (decide ((b.length : Int) < 4)) = false := by simp; omega
    have hbt : (b.take n).length = n := by simp; omega
    have HN := Hid.mk' hbn
    clear hn
    go_enter Try.func136, Try.ntmps136
    go_wp2_with fail
    refine (cseal_ref H hpre (by omega)).mono ?_
    rintro e w1 ⟨o, rfl, H1⟩
    obtain ⟨ao, co, rfl⟩ := H1.rowRd.form
    go_wp2_with fail
    have hsl : (sealB (b.take n)).length = n + 4 := by rw [sealB, List.length_append, fourB_length, hbt]
    have hgs : goodB b = decide (b = sealB (b.take n)) := by
      unfold goodB
      rw [show b.length - 4 = n by omega]
      simp [h4]
    have HG := Hid.mk' hgs
    generalize sealB (b.take n) = s at H1 hsl HG ⊢
    clear hgs
    rw [hsl] at H1
    rw [hsl]
    go_loopw [4] (fun i wx => ∃ j : Nat, i = .int .i64 j ∧ j ≤ n + 4 ∧ (∀ i, i < j → s[i]? = b[i]?) ∧ Holds wx R (star (row tU8 1 (.slice ao (n + 4) co) (n + 4) (u8s s)) L)) (fun i _ => n + 4 - (intOf i).toNat)
    case atStart => exact ⟨0, rfl, Nat.zero_le _, fun i hi => absurd hi (Nat.not_lt_zero i), by have h := H1; unfold rowB at h; rw [hsl] at h; exact h⟩
    case round =>
      clear H1
      obtain ⟨j, rfl, hj, hall, H6⟩ := hrel
      have HA := Hid.mk' hall
      clear hall
      by_cases hlt : j < n + 4
      · have hrs : RdB wr.cell? (.slice ao (n + 4) co) s := by have h := H6.rowRd; unfold RdB; rw [hsl]; exact h
        obtain ⟨bs, os, rfl, hcs⟩ := RdB.open hrs (by omega)
        obtain ⟨bb, ob, rfl, hcb⟩ := RdB.open hr (by omega)
        have hnj : j < b.length := by omega
        have hsj : j < s.length := by omega
        have cj := H6.cell (hcb j hnj)
        have cs := hcs j hsj
        have hgj : b[j]? = some b[j] := List.getElem?_eq_getElem hnj
        have hgs : s[j]? = some s[j] := List.getElem?_eq_getElem hsj
        have HJ := Hid.mk' hgj
        have HJS := Hid.mk' hgs
        have i3 : (0 : Int) ≤ (j : Int) := by omega
        have i4 : (j : Int) < (n : Int) + 4 := by omega
        clear hcb hcs hgj hgs hrs
        generalize b[j] = y at cj HJ
        generalize s[j] = z at cs HJS
        by_cases hyx : z = y
        · subst hyx
          have hsucc : ∀ i, i < j + 1 → s[i]? = b[i]? := fun i hi => by
            by_cases h : i < j
            · exact HA.out i h
            · obtain rfl : i = j := by omega
              rw [HJ.out, HJS.out]
          have HSU := Hid.mk' hsucc
          clear hsucc
          go_wp2_with fail
          go_quiet (fail)
          go_wp2_with fail
          go_roundw
          case rel => exact ⟨j + 1, by go_num, hlt, HSU.out, H6.drewN _⟩
          case measure => simp [intOf]; omega
        · have hz : ¬ ((z.toNat : Int) = (y.toNat : Int)) := fun e => hyx (UInt8.toNat_inj.1 (by omega))
          have hfail : goodB b = false := by
            rw [HG.out, decide_eq_false_iff_not]
            intro e
            have := HJ.out
            rw [e, HJS.out] at this
            exact hyx (Option.some.inj this)
          go_wp2_with fail
          go_quiet (fail)
          go_wp2_with fail
          go_ret
          rw [hfail]
          exact ⟨rfl, (H6.drewN _).drop⟩
      · obtain rfl : j = n + 4 := by omega
        have hok : goodB b = true := by
          rw [HG.out, decide_eq_true_eq]
          apply List.ext_getElem?
          intro i
          by_cases h : i < n + 4
          · exact (HA.out i h).symm
          · rw [List.getElem?_eq_none (by omega), List.getElem?_eq_none (by omega)]
        go_wp2_with fail
        go_ret
        rw [hok]
        exact ⟨rfl, H6.drop⟩
  · have t1 : (decide ((b.length : Int) < 4)) = true := by simp; omega
    have hg : goodB b = false := by unfold goodB; simp [h4]
    go_enter Try.func136, Try.ntmps136
    go_wp2_with fail
    go_ret
    rw [hg]
    exact ⟨rfl, H⟩
/-- What a turn gives: as long, and the same but for 32 bits from 'first' on. -/
def turnedB (b x : List UInt8) (first : Int) : Prop := x.length = b.length ∧ ∀ i : Nat, ((i : Int) < first ∨ first + 32 ≤ i) → bitAt x i = bitAt b i
theorem bitAt_set {l : List UInt8} {m : Nat} {c : UInt8} {i : Nat} (h : i ≠ m) (hm : m / 8 < l.length) (hc : ∀ r, r < 8 → r ≠ m % 8 → c.toBitVec.getLsbD r = (l.getD (m / 8) 0).toBitVec.getLsbD r) : bitAt (l.set (m / 8) c) i = bitAt l i := by
  unfold bitAt
  by_cases e : m / 8 = i / 8
  · rw [List.getD_eq_getElem?_getD, ← e, List.getElem?_set_self hm]
    show c.toBitVec.getLsbD (i % 8) = _
    exact hc (i % 8) (by omega) (by omega)
  · rw [List.getD_eq_getElem?_getD, List.getElem?_set_ne e, ← List.getD_eq_getElem?_getD]
@[go_sem] theorem wrapu8_1 : IntKind.u8.wrap 1 = 1 := by decide
@[go_sem] theorem wrapu8_2 : IntKind.u8.wrap 2 = 2 := by decide
@[go_sem] theorem wrapu8_4 : IntKind.u8.wrap 4 = 4 := by decide
@[go_sem] theorem wrapu8_8 : IntKind.u8.wrap 8 = 8 := by decide
@[go_sem] theorem wrapu8_16 : IntKind.u8.wrap 16 = 16 := by decide
@[go_sem] theorem wrapu8_32 : IntKind.u8.wrap 32 = 32 := by decide
@[go_sem] theorem wrapu8_64 : IntKind.u8.wrap 64 = 64 := by decide
@[go_sem] theorem wrapu8_128 : IntKind.u8.wrap 128 = 128 := by decide
theorem flip_mask : ∀ r, r < 8 → ∀ s, s < 8 → s ≠ r → (BitVec.ofNat 8 (2 ^ r)).getLsbD s = false := by decide
theorem flip_bit (y : UInt8) (r : Nat) (hr : r < 8) : ∃ z : UInt8, bits .xor .u8 (y.toNat : Int) ((2 ^ r : Nat) : Int) = (z.toNat : Int) ∧ ∀ s, s < 8 → s ≠ r → z.toBitVec.getLsbD s = y.toBitVec.getLsbD s := by
  refine ⟨UInt8.ofBitVec (y.toBitVec ^^^ BitVec.ofNat 8 (2 ^ r)), ?_, fun s hs hne => ?_⟩
  · show IntKind.u8.wrap (((BitVec.ofInt 8 (bn y.toBitVec)) ^^^ (BitVec.ofInt 8 ((2 ^ r : Nat) : Int))).toNat : Int) = _
    rw [ofInt8, wrap8, BitVec.ofInt_natCast]; rfl
  · show (y.toBitVec ^^^ BitVec.ofNat 8 (2 ^ r)).getLsbD s = _
    rw [BitVec.getLsbD_xor, flip_mask r hr s hs hne, Bool.xor_false]
theorem turn_spec {w : World} {R : Snap} {L : Asrt} {v : Value} {b : List UInt8} {first : Int} {mask : Reg} (H : Holds w R L) (hr : RdB R.cell? v b) (hb : b.length ≤ 1000000) (hf : -9223372036854775808 ≤ first ∧ first ≤ 9223372036854775807) :
    Calls Try.prog 60 #[v, .int .i64 first, .int .u32 (tn mask)] w fun e w' => ∃ o x, e = .returned o ∧ turnedB b x first ∧ Holds w' R (star (rowB o x) L) := by
  obtain ⟨a, c, rfl⟩ := hr.form
  go_enter Try.func60, Try.ntmps60
  go_wp2_with (with_reducible refine stop_append ?_)
  refine Hold.go (wpList_appendB rfl _ _ rfl rfl rfl (freshB H) (hr.world (H.garbage _)) (by simp only [List.length_nil]; omega) ?_)
  intro v2 w2 H2
  rw [List.nil_append] at H2
  go_wp2_with fail
  obtain ⟨ao, co, rfl⟩ := H2.rowRd.form
  go_loopw [8] (fun i wx => ∃ (j : Nat) (x : List UInt8), i = .int .i64 j ∧ j ≤ 32 ∧ turnedB b x first ∧ Holds wx R (star (row tU8 1 (.slice ao b.length co) b.length (u8s x)) L)) (fun i _ => 32 - (intOf i).toNat)
  case atStart => exact ⟨0, b, rfl, Nat.zero_le _, ⟨rfl, fun _ _ => rfl⟩, H2⟩
  case round =>
    clear H2
    obtain ⟨j, x, rfl, hj, hx, H6⟩ := hrel
    by_cases hlt : j < 32
    · have hxl := hx.1
      have hs : tn mask / (2 : Int) ^ j = tn (mask >>> j) := shr32 mask j
      have ha := and1 (mask >>> j)
      by_cases hskip : (mask >>> j).getLsbD 0 = false ∨ first < 0 ∨ 8 * (b.length : Int) - 1 - j < first
      · by_cases hm0 : (mask >>> j).getLsbD 0 = true
        · rw [hm0, if_pos rfl] at ha
          by_cases hf0 : first < 0
          · have t1 : (decide (first < 0)) = true := by simpa using hf0
            clear hskip hm0
            go_wp2_with fail
            go_roundw
            case rel => exact ⟨j + 1, x, by go_num, hlt, hx, H6⟩
            case measure => simp [intOf]; omega
          · have hf1 : 8 * (b.length : Int) - 1 - j < first := by
              rcases hskip with h | h | h
              · rw [h] at hm0; cases hm0
              · exact absurd h hf0
              · exact h
            have t1 : (decide (first < 0)) = false := by simpa using hf0
            have t2 : (decide (8 * (b.length : Int) - 1 - j < first)) = true := by simpa using hf1
            clear hskip hm0
            go_wp2_with fail
            go_roundw
            case rel => exact ⟨j + 1, x, by go_num, hlt, hx, H6⟩
            case measure => simp [intOf]; omega
        · rw [if_neg hm0] at ha
          clear hskip hm0
          go_wp2_with fail
          go_roundw
          case rel => exact ⟨j + 1, x, by go_num, hlt, hx, H6⟩
          case measure => simp [intOf]; omega
      · obtain ⟨hm1, hf0, hf1⟩ : (mask >>> j).getLsbD 0 = true ∧ 0 ≤ first ∧ first ≤ 8 * (b.length : Int) - 1 - j := by
          refine ⟨?_, by omega, by omega⟩
          cases h : (mask >>> j).getLsbD 0 with
          | true => rfl
          | false => exact absurd (.inl h) hskip
        rw [hm1, if_pos rfl] at ha
        obtain ⟨f, rfl⟩ : ∃ f : Nat, first = f := ⟨first.toNat, by omega⟩
        obtain ⟨m, hm⟩ : ∃ m, m = f + j := ⟨_, rfl⟩
        obtain ⟨k, hk⟩ : ∃ k, k = m / 8 := ⟨_, rfl⟩
        obtain ⟨r, hrr⟩ : ∃ r, r = m % 8 := ⟨_, rfl⟩
        have hat : (f : Int) + (j : Int) = (m : Int) := by omega
        have hq : (m : Int).tdiv 8 = (k : Int) := by rw [Int.tdiv_eq_ediv_of_nonneg (by omega)]; omega
        have hrm : (m : Int).tmod 8 = (r : Int) := by rw [Int.tmod_eq_emod_of_nonneg (by omega)]; omega
        have hkl : k < b.length := by omega
        have hr8 : r < 8 := by omega
        have t1 : (decide ((f : Int) < 0)) = false := by simp
        have t2 : (decide (8 * (b.length : Int) - 1 - j < f)) = false := by simp; omega
        have HK := Hid.mk' (And.intro hm (And.intro hk hrr))
        clear hskip hm1 hm hk hrr
        obtain ⟨g, cap, e1, hc, hg2, hcl, hfz⟩ := H6.rowAt (by omega)
        simp only [Value.slice.injEq, true_and] at e1
        obtain ⟨rfl, rfl⟩ := e1
        have hkx : k < x.length := by rw [hxl]; exact hkl
        have ck := hcl k (.int .u8 (x[k].toNat : Int)) (by rw [u8s, List.getElem?_map, List.getElem?_eq_getElem hkx]; rfl)
        have fk := hfz k
        have hy : x.getD k 0 = x[k] := by rw [List.getD_eq_getElem?_getD, List.getElem?_eq_getElem hkx]; rfl
        obtain ⟨z, hz, hzb⟩ := flip_bit x[k] r hr8
        rw [← hy] at hz hzb ck
        generalize x.getD k 0 = y at hz ck
        have HZ := Hid.mk' hzb
        have HX := Hid.mk' hx
        have hnew : turnedB b (x.set k z) (f : Int) := by
          obtain ⟨h1, h2, h3⟩ := HK.out
          refine ⟨by rw [List.length_set]; exact hxl, fun i hi => ?_⟩
          rw [← hx.2 i hi, h2]
          refine bitAt_set (by omega) (by rw [← h2]; exact hkx) (fun s hs hne => ?_)
          rw [← h2]
          exact hzb s hs (by omega)
        have HNW := Hid.mk' hnew
        have i1 : (0 : Int) ≤ (k : Int) := by omega
        have i2 : (k : Int) < (b.length : Int) := by omega
        have wk : IntKind.i64.wrap (k : Int) = (k : Int) := IntWalk.i64_in _ (by omega)
        clear hcl hfz hy hzb hx hnew
        have hfin : ∀ w', w' = wr.drew.setCell ⟨g, k, none⟩ (.int .u8 (z.toNat : Int)) → Holds w' R (star (row tU8 1 (.slice (some ⟨g, 0, none⟩) b.length co) b.length (u8s (x.set k z))) L) := by
          rintro w' rfl
          have h := row_write H6.drew k (z.toNat : Int) hkl (by have := u8_lt z; omega)
          rw [Int.toNat_natCast, show UInt8.ofNat z.toNat = z by simp] at h
          exact h
        have HF := Hid.mk' hfin
        clear hfin
        rcases (by omega : r = 0 ∨ r = 1 ∨ r = 2 ∨ r = 3 ∨ r = 4 ∨ r = 5 ∨ r = 6 ∨ r = 7) with rfl | rfl | rfl | rfl | rfl | rfl | rfl | rfl
        · have hz2 : bits .xor .u8 (y.toNat : Int) 1 = (z.toNat : Int) := hz
          clear hz
          go_wp2_with fail
          go_still_tail 13, (by kernel_rfl)
          change wpList _ _ _ _ _ wr.drew
          go_wp2_with fail
          go_roundw
          case rel => exact ⟨j + 1, x.set k z, by go_num, hlt, HNW.out, HF.out _ rfl⟩
          case measure => simp [intOf]; omega
        · have hz2 : bits .xor .u8 (y.toNat : Int) 2 = (z.toNat : Int) := hz
          clear hz
          go_wp2_with fail
          go_still_tail 13, (by kernel_rfl)
          change wpList _ _ _ _ _ wr.drew
          go_wp2_with fail
          go_roundw
          case rel => exact ⟨j + 1, x.set k z, by go_num, hlt, HNW.out, HF.out _ rfl⟩
          case measure => simp [intOf]; omega
        · have hz2 : bits .xor .u8 (y.toNat : Int) 4 = (z.toNat : Int) := hz
          clear hz
          go_wp2_with fail
          go_still_tail 13, (by kernel_rfl)
          change wpList _ _ _ _ _ wr.drew
          go_wp2_with fail
          go_roundw
          case rel => exact ⟨j + 1, x.set k z, by go_num, hlt, HNW.out, HF.out _ rfl⟩
          case measure => simp [intOf]; omega
        · have hz2 : bits .xor .u8 (y.toNat : Int) 8 = (z.toNat : Int) := hz
          clear hz
          go_wp2_with fail
          go_still_tail 13, (by kernel_rfl)
          change wpList _ _ _ _ _ wr.drew
          go_wp2_with fail
          go_roundw
          case rel => exact ⟨j + 1, x.set k z, by go_num, hlt, HNW.out, HF.out _ rfl⟩
          case measure => simp [intOf]; omega
        · have hz2 : bits .xor .u8 (y.toNat : Int) 16 = (z.toNat : Int) := hz
          clear hz
          go_wp2_with fail
          go_still_tail 13, (by kernel_rfl)
          change wpList _ _ _ _ _ wr.drew
          go_wp2_with fail
          go_roundw
          case rel => exact ⟨j + 1, x.set k z, by go_num, hlt, HNW.out, HF.out _ rfl⟩
          case measure => simp [intOf]; omega
        · have hz2 : bits .xor .u8 (y.toNat : Int) 32 = (z.toNat : Int) := hz
          clear hz
          go_wp2_with fail
          go_still_tail 13, (by kernel_rfl)
          change wpList _ _ _ _ _ wr.drew
          go_wp2_with fail
          go_roundw
          case rel => exact ⟨j + 1, x.set k z, by go_num, hlt, HNW.out, HF.out _ rfl⟩
          case measure => simp [intOf]; omega
        · have hz2 : bits .xor .u8 (y.toNat : Int) 64 = (z.toNat : Int) := hz
          clear hz
          go_wp2_with fail
          go_still_tail 13, (by kernel_rfl)
          change wpList _ _ _ _ _ wr.drew
          go_wp2_with fail
          go_roundw
          case rel => exact ⟨j + 1, x.set k z, by go_num, hlt, HNW.out, HF.out _ rfl⟩
          case measure => simp [intOf]; omega
        · have hz2 : bits .xor .u8 (y.toNat : Int) 128 = (z.toNat : Int) := hz
          clear hz
          go_wp2_with fail
          go_still_tail 13, (by kernel_rfl)
          change wpList _ _ _ _ _ wr.drew
          go_wp2_with fail
          go_roundw
          case rel => exact ⟨j + 1, x.set k z, by go_num, hlt, HNW.out, HF.out _ rfl⟩
          case measure => simp [intOf]; omega
    · go_wp2_with fail
      go_ret
      exact ⟨_, x, rfl, hx, by unfold rowB; rw [hx.1]; exact H6⟩
end Sh
