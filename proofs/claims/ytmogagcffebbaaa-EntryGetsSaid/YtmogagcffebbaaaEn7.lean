/- CrcRef MsgRPut EntRCheck: joined texts, each with its own sentence below. -/
import Derived.Test.YtmogagcffebbaaaEn5
import Derived.Test.YtmogagcffebbaaaEn6
import Derived.Test.YtmogagcffebbaaaEn3
import Derived.BigQuiet
/- sherdref05's contracts. -/
set_option linter.unusedVariables false
set_option linter.unusedSimpArgs false
namespace Sh
open Go Go.RowKit Go.Proofs
attribute [local go_sem ↓] Go.wp_at_zero Go.wp_at_succ
set_option maxHeartbeats 1000000
set_option maxRecDepth 100000

def bitsOf (c : UInt8) (i : Nat) : Bool := c.toBitVec.getLsbD i
theorem byte_bits (r : Reg) (c : UInt8) : crcReg (bitsOf c) r 8 = byteStep r c := by
  rw [show (8 : Nat) = 0 + 8 from rfl, crcReg_word (by omega)]
  show crcSteps 8 (r ^^^ _) = crcSteps 8 (r ^^^ _)
  congr 2
  apply BitVec.eq_of_getLsbD_eq
  intro i hi
  rw [crcWord_bit hi, BitVec.getLsbD_setWidth, decide_eq_true hi, Bool.true_and, Nat.zero_add]
  by_cases h : i < 8
  · rw [decide_eq_true h]; rfl
  · rw [decide_eq_false h, BitVec.getLsbD_of_ge _ _ (by omega)]; rfl
theorem bit_step (y : Reg) (b : Bool) : crcStep (y ^^^ (BitVec.ofBool b).setWidth 32) = if y.getLsbD 0 = b then y >>> 1 else (y >>> 1) ^^^ 0xEDB88320#32 := by
  have h1 : (y ^^^ (BitVec.ofBool b).setWidth 32) >>> 1 = y >>> 1 := by
    rw [BitVec.ushiftRight_xor_distrib]
    have : ((BitVec.ofBool b).setWidth 32) >>> 1 = 0#32 := by cases b <;> rfl
    rw [this, BitVec.xor_zero]
  have h2 : (y ^^^ (BitVec.ofBool b).setWidth 32).getLsbD 0 = (y.getLsbD 0 ^^ b) := by
    rw [BitVec.getLsbD_xor]; congr 1; cases b <;> rfl
  unfold crcStep
  rw [h1, h2]
  cases y.getLsbD 0 <;> cases b <;> rfl
@[go_sem] theorem up32 (c : UInt8) : IntKind.u32.wrap (c.toNat : Int) = tn (c.toBitVec.setWidth 32) := by
  have h := c.toBitVec.isLt
  have e : tn (c.toBitVec.setWidth 32) = (c.toNat : Int) := by
    unfold tn; rw [BitVec.toNat_setWidth, Nat.mod_eq_of_lt (Nat.lt_trans h (by decide))]; rfl
  rw [e]
  have h2 := u8_lt c
  simp [IntKind.wrap, IntKind.bits, IntKind.signed]; omega
@[go_sem] theorem div4 (x : Reg) : tn x / (4 : Int) = tn (x >>> 2) := shr32 x 2
@[go_sem] theorem div8 (x : Reg) : tn x / (8 : Int) = tn (x >>> 3) := shr32 x 3
@[go_sem] theorem div16 (x : Reg) : tn x / (16 : Int) = tn (x >>> 4) := shr32 x 4
@[go_sem] theorem div32 (x : Reg) : tn x / (32 : Int) = tn (x >>> 5) := shr32 x 5
@[go_sem] theorem div64 (x : Reg) : tn x / (64 : Int) = tn (x >>> 6) := shr32 x 6
@[go_sem] theorem div128 (x : Reg) : tn x / (128 : Int) = tn (x >>> 7) := shr32 x 7
theorem bit_and (c : UInt8) (k : Nat) (hk : k < 8) : bits .and .u32 (tn (c.toBitVec.setWidth 32 >>> k)) 1 = if bitsOf c k then 1 else 0 := by
  rw [and1, BitVec.getLsbD_ushiftRight, BitVec.getLsbD_setWidth, decide_eq_true (show k + 0 < 32 by omega), Bool.true_and]; rfl
theorem csum_ref {w : World} {v : Value} {b : List UInt8} (hr : RdB w.cell? v b) :
    Calls Try.prog 135 #[v] w fun e w' => e = .returned (.int .u32 (tn (crcOf b))) ∧ w = w' := by
  obtain ⟨a, c, rfl⟩ := hr.form
  have hqm := Rd.max hr
  unfold maxLen at hqm
  go_enter Try.func135, Try.ntmps135
  go_wp2_with fail
  go_loop [3, 4] (fun x i => ∃ j : Nat, i = .int .i64 j ∧ j ≤ b.length ∧ x = .int .u32 (tn (crcRun crcOnes (b.take j)))) (fun _ i => b.length - (intOf i).toNat)
  case atStart => exact ⟨0, rfl, Nat.zero_le _, rfl⟩
  case round =>
    obtain ⟨j, rfl, hj, rfl⟩ := hrel
    by_cases hlt : j < b.length
    · obtain ⟨bb, ob, rfl, hc⟩ := RdB.open hr (by omega)
      have cj := hc j hlt
      have hst := crcRun_take crcOnes b j hlt
      generalize crcRun crcOnes (b.take j) = r0 at hst ⊢
      generalize b[j] = q at cj hst
      have HS := Hid.mk' hst
      clear hst hc
      go_wp2_with fail
      go_loop [3, 5] (fun x k => ∃ n : Nat, k = .int .i64 n ∧ n ≤ 8 ∧ x = .int .u32 (tn (crcReg (bitsOf q) r0 n))) (fun _ k => 8 - (intOf k).toNat)
      case atStart => exact ⟨0, rfl, Nat.zero_le _, rfl⟩
      case round =>
        obtain ⟨n, rfl, hn, rfl⟩ := hrel
        by_cases hn8 : n < 8
        · have hst : crcReg (bitsOf q) r0 (n + 1) = _ := bit_step (crcReg (bitsOf q) r0 n) (bitsOf q n)
          generalize crcReg (bitsOf q) r0 n = y at hst ⊢
          have HST := Hid.mk' hst
          clear hst
          rcases (by omega : n = 0 ∨ n = 1 ∨ n = 2 ∨ n = 3 ∨ n = 4 ∨ n = 5 ∨ n = 6 ∨ n = 7) with rfl | rfl | rfl | rfl | rfl | rfl | rfl | rfl
          all_goals
            cases h1 : y.getLsbD 0 <;> cases h2 : bitsOf q _
            all_goals
              have ha := and1 y
              have hb := bit_and q _ hn8
              rw [h1] at ha
              rw [h2] at hb
              try rw [show (q.toBitVec.setWidth 32 : Reg) >>> 0 = q.toBitVec.setWidth 32 from rfl] at hb
              have HH1 := Hid.mk' h1
              have HH2 := Hid.mk' h2
              clear h1 h2
              simp only [Bool.false_eq_true, if_false, if_true] at ha hb
              go_wp2_with fail
              go_round
              case rel => exact ⟨_ + 1, rfl, by omega, by rw [HST.out, HH1.out, HH2.out]; rfl⟩
              case measure => simp [intOf]
        · obtain rfl : n = 8 := by omega
          rw [byte_bits]
          go_wp2_with fail
          go_round
          case rel => exact ⟨j + 1, by go_num, hlt, by rw [HS.out]⟩
          case measure => simp [intOf]; omega
    · go_wp2_with fail
      go_ret
      rw [List.take_of_length_le (by omega)]
      exact ⟨rfl, rfl⟩
@[go_sem] theorem and255 (x : Reg) : bits .and .u32 (tn x) 255 = bn (x.setWidth 8) := by
  show IntKind.u32.wrap (((BitVec.ofInt 32 (tn x)) &&& 255#32).toNat : Int) = _
  rw [ofInt32, wrap32]
  unfold tn bn
  congr 1
  rw [BitVec.toNat_and, BitVec.toNat_setWidth]
  exact Nat.and_two_pow_sub_one_eq_mod _ 8
@[go_sem] theorem wrapbn (x : BitVec 8) : IntKind.u8.wrap (bn x) = bn x := wrap8 x
theorem cseal_ref {w : World} {R : Snap} {L : Asrt} {v : Value} {b : List UInt8} (H : Holds w R L) (hr : RdB R.cell? v b) (hb : b.length ≤ 1000000) :
    Calls Try.prog 58 #[v] w fun e w' => ∃ o, e = .returned o ∧ Holds w' R (star (rowB o (sealB b)) L) := by
  obtain ⟨a, c, rfl⟩ := hr.form
  go_enter Try.func58, Try.ntmps58
  go_wp2_with fail
  refine (csum_ref (hr.world H)).mono ?_
  rintro e w1 ⟨rfl, rfl⟩
  go_wp2_with (with_reducible refine stop_append ?_)
  refine Hold.go (wpList_appendB rfl _ _ rfl rfl rfl (freshB H) (hr.world (H.garbage _)) (by simp only [List.length_nil]; omega) ?_)
  intro v2 w2 H2
  rw [List.nil_append] at H2
  go_wp2_with fail
  have H5 : Holds w2 R (star (rowB v2 (b ++ (fourB (crcOf b)).take 0)) L) := by simpa using H2
  go_loopw [4, 5] (fun o i wx => ∃ j : Nat, i = .int .i64 j ∧ j ≤ 4 ∧ Holds wx R (star (rowB o (b ++ (fourB (crcOf b)).take j)) L)) (fun _ i _ => 4 - (intOf i).toNat)
  case atStart => exact ⟨0, rfl, Nat.zero_le _, H5⟩
  case round =>
    clear H2 H5
    obtain ⟨j, rfl, hj, H6⟩ := hrel
    by_cases hlt : j < 4
    · have hs := fourB_take_succ (crcOf b) hlt
      have HS := Hid.mk' hs
      have hln : (b ++ (fourB (crcOf b)).take j).length ≤ 1000010 := by
        rw [List.length_append, List.length_take, fourB_length]; omega
      clear hs
      rcases (by omega : j = 0 ∨ j = 1 ∨ j = 2 ∨ j = 3) with rfl | rfl | rfl | rfl
      · go_wp2_with (with_reducible refine stop_append ?_)
        refine Hold.go (wpList_appendB rfl _ _ rfl rfl rfl (H6.garbage _) (blkRdB (H6.alloc _ _) [fb (crcOf b) 0] rfl rfl (Nat.le_of_ble_eq_true rfl)) (by rw [List.length_singleton]; omega) ?_)
        intro v7 w7 H7
        go_wp2_with fail
        go_roundw
        case rel => exact ⟨1, rfl, by omega, by rw [HS.out, ← List.append_assoc]; exact H7⟩
        case measure => simp [intOf]
      · go_wp2_with (with_reducible refine stop_append ?_)
        refine Hold.go (wpList_appendB rfl _ _ rfl rfl rfl (H6.garbage _) (blkRdB (H6.alloc _ _) [fb (crcOf b) 1] rfl rfl (Nat.le_of_ble_eq_true rfl)) (by rw [List.length_singleton]; omega) ?_)
        intro v7 w7 H7
        go_wp2_with fail
        go_roundw
        case rel => exact ⟨2, rfl, by omega, by rw [HS.out, ← List.append_assoc]; exact H7⟩
        case measure => simp [intOf]
      · go_wp2_with (with_reducible refine stop_append ?_)
        refine Hold.go (wpList_appendB rfl _ _ rfl rfl rfl (H6.garbage _) (blkRdB (H6.alloc _ _) [fb (crcOf b) 2] rfl rfl (Nat.le_of_ble_eq_true rfl)) (by rw [List.length_singleton]; omega) ?_)
        intro v7 w7 H7
        go_wp2_with fail
        go_roundw
        case rel => exact ⟨3, rfl, by omega, by rw [HS.out, ← List.append_assoc]; exact H7⟩
        case measure => simp [intOf]
      · go_wp2_with (with_reducible refine stop_append ?_)
        refine Hold.go (wpList_appendB rfl _ _ rfl rfl rfl (H6.garbage _) (blkRdB (H6.alloc _ _) [fb (crcOf b) 3] rfl rfl (Nat.le_of_ble_eq_true rfl)) (by rw [List.length_singleton]; omega) ?_)
        intro v7 w7 H7
        go_wp2_with fail
        go_roundw
        case rel => exact ⟨4, rfl, by omega, by rw [HS.out, ← List.append_assoc]; exact H7⟩
        case measure => simp [intOf]
    · obtain rfl : j = 4 := by omega
      go_wp2_with fail
      go_ret
      exact ⟨_, rfl, H6⟩
theorem cgood_ref {w : World} {R : Snap} {L : Asrt} {v : Value} {b : List UInt8} (H : Holds w R L) (hr : RdB R.cell? v b) (hb : b.length ≤ 1000000) :
    Calls Try.prog 136 #[v] w fun e w' => e = .returned (.bool (goodB b)) ∧ Holds w' R L := by
  obtain ⟨a, c, rfl⟩ := hr.form
  by_cases h4 : 4 ≤ b.length
  · have hB := hr.bounds
    obtain ⟨n, hn⟩ : ∃ n, n = b.length - 4 := ⟨_, rfl⟩
    have hbn : b.length = n + 4 := by omega
    have hbz : (b.length : Int) - 4 = n := by omega
    have i1 : (0 : Int) ≤ (n : Int) := by omega
    have i2 : (n : Int) ≤ (c : Int) := by omega
    have hpre := RdB.pre hr n (by omega)
    have t0 : (decide ((b.length : Int) < 4)) = false := by simp; omega
    have hbt : (b.take n).length = n := by simp; omega
    have HN := Hid.mk' hbn
    clear hn
    go_enter Try.func136, Try.ntmps136
    go_wp2_with fail
    refine (cseal_ref H hpre (by omega)).mono ?_
    rintro e w1 ⟨o, rfl, H1⟩
    obtain ⟨ao, co, rfl⟩ := H1.rowRd.form
    go_wp2_with fail
    have hsl : (sealB (b.take n)).length = n + 4 := by rw [sealB, List.length_append, fourB_length, hbt]
    have hgs : goodB b = decide (b = sealB (b.take n)) := by
      unfold goodB
      rw [show b.length - 4 = n by omega]
      simp [h4]
    have HG := Hid.mk' hgs
    generalize sealB (b.take n) = s at H1 hsl HG ⊢
    clear hgs
    rw [hsl] at H1
    rw [hsl]
    go_loopw [4] (fun i wx => ∃ j : Nat, i = .int .i64 j ∧ j ≤ n + 4 ∧ (∀ i, i < j → s[i]? = b[i]?) ∧ Holds wx R (star (row tU8 1 (.slice ao (n + 4) co) (n + 4) (u8s s)) L)) (fun i _ => n + 4 - (intOf i).toNat)
    case atStart => exact ⟨0, rfl, Nat.zero_le _, fun i hi => absurd hi (Nat.not_lt_zero i), by have h := H1; unfold rowB at h; rw [hsl] at h; exact h⟩
    case round =>
      clear H1
      obtain ⟨j, rfl, hj, hall, H6⟩ := hrel
      have HA := Hid.mk' hall
      clear hall
      by_cases hlt : j < n + 4
      · have hrs : RdB wr.cell? (.slice ao (n + 4) co) s := by have h := H6.rowRd; unfold RdB; rw [hsl]; exact h
        obtain ⟨bs, os, rfl, hcs⟩ := RdB.open hrs (by omega)
        obtain ⟨bb, ob, rfl, hcb⟩ := RdB.open hr (by omega)
        have hnj : j < b.length := by omega
        have hsj : j < s.length := by omega
        have cj := H6.cell (hcb j hnj)
        have cs := hcs j hsj
        have hgj : b[j]? = some b[j] := List.getElem?_eq_getElem hnj
        have hgs : s[j]? = some s[j] := List.getElem?_eq_getElem hsj
        have HJ := Hid.mk' hgj
        have HJS := Hid.mk' hgs
        have i3 : (0 : Int) ≤ (j : Int) := by omega
        have i4 : (j : Int) < (n : Int) + 4 := by omega
        clear hcb hcs hgj hgs hrs
        generalize b[j] = y at cj HJ
        generalize s[j] = z at cs HJS
        by_cases hyx : z = y
        · subst hyx
          have hsucc : ∀ i, i < j + 1 → s[i]? = b[i]? := fun i hi => by
            by_cases h : i < j
            · exact HA.out i h
            · obtain rfl : i = j := by omega
              rw [HJ.out, HJS.out]
          have HSU := Hid.mk' hsucc
          clear hsucc
          go_wp2_with fail
          go_quiet (fail)
          go_wp2_with fail
          go_roundw
          case rel => exact ⟨j + 1, by go_num, hlt, HSU.out, H6.drewN _⟩
          case measure => simp [intOf]; omega
        · have hz : ¬ ((z.toNat : Int) = (y.toNat : Int)) := fun e => hyx (UInt8.toNat_inj.1 (by omega))
          have hfail : goodB b = false := by
            rw [HG.out, decide_eq_false_iff_not]
            intro e
            have := HJ.out
            rw [e, HJS.out] at this
            exact hyx (Option.some.inj this)
          go_wp2_with fail
          go_quiet (fail)
          go_wp2_with fail
          go_ret
          rw [hfail]
          exact ⟨rfl, (H6.drewN _).drop⟩
      · obtain rfl : j = n + 4 := by omega
        have hok : goodB b = true := by
          rw [HG.out, decide_eq_true_eq]
          apply List.ext_getElem?
          intro i
          by_cases h : i < n + 4
          · exact (HA.out i h).symm
          · rw [List.getElem?_eq_none (by omega), List.getElem?_eq_none (by omega)]
        go_wp2_with fail
        go_ret
        rw [hok]
        exact ⟨rfl, H6.drop⟩
  · have t1 : (decide ((b.length : Int) < 4)) = true := by simp; omega
    have hg : goodB b = false := by unfold goodB; simp [h4]
    go_enter Try.func136, Try.ntmps136
    go_wp2_with fail
    go_ret
    rw [hg]
    exact ⟨rfl, H⟩
/-- What a turn gives: as long, and the same but for 32 bits from 'first' on. -/
def turnedB (b x : List UInt8) (first : Int) : Prop := x.length = b.length ∧ ∀ i : Nat, ((i : Int) < first ∨ first + 32 ≤ i) → bitAt x i = bitAt b i
theorem bitAt_set {l : List UInt8} {m : Nat} {c : UInt8} {i : Nat} (h : i ≠ m) (hm : m / 8 < l.length) (hc : ∀ r, r < 8 → r ≠ m % 8 → c.toBitVec.getLsbD r = (l.getD (m / 8) 0).toBitVec.getLsbD r) : bitAt (l.set (m / 8) c) i = bitAt l i := by
  unfold bitAt
  by_cases e : m / 8 = i / 8
  · rw [List.getD_eq_getElem?_getD, ← e, List.getElem?_set_self hm]
    show c.toBitVec.getLsbD (i % 8) = _
    exact hc (i % 8) (by omega) (by omega)
  · rw [List.getD_eq_getElem?_getD, List.getElem?_set_ne e, ← List.getD_eq_getElem?_getD]
@[go_sem] theorem wrapu8_1 : IntKind.u8.wrap 1 = 1 := by decide
@[go_sem] theorem wrapu8_2 : IntKind.u8.wrap 2 = 2 := by decide
@[go_sem] theorem wrapu8_4 : IntKind.u8.wrap 4 = 4 := by decide
@[go_sem] theorem wrapu8_8 : IntKind.u8.wrap 8 = 8 := by decide
@[go_sem] theorem wrapu8_16 : IntKind.u8.wrap 16 = 16 := by decide
@[go_sem] theorem wrapu8_32 : IntKind.u8.wrap 32 = 32 := by decide
@[go_sem] theorem wrapu8_64 : IntKind.u8.wrap 64 = 64 := by decide
@[go_sem] theorem wrapu8_128 : IntKind.u8.wrap 128 = 128 := by decide
theorem flip_mask : ∀ r, r < 8 → ∀ s, s < 8 → s ≠ r → (BitVec.ofNat 8 (2 ^ r)).getLsbD s = false := by decide
theorem flip_bit (y : UInt8) (r : Nat) (hr : r < 8) : ∃ z : UInt8, bits .xor .u8 (y.toNat : Int) ((2 ^ r : Nat) : Int) = (z.toNat : Int) ∧ ∀ s, s < 8 → s ≠ r → z.toBitVec.getLsbD s = y.toBitVec.getLsbD s := by
  refine ⟨UInt8.ofBitVec (y.toBitVec ^^^ BitVec.ofNat 8 (2 ^ r)), ?_, fun s hs hne => ?_⟩
  · show IntKind.u8.wrap (((BitVec.ofInt 8 (bn y.toBitVec)) ^^^ (BitVec.ofInt 8 ((2 ^ r : Nat) : Int))).toNat : Int) = _
    rw [ofInt8, wrap8, BitVec.ofInt_natCast]; rfl
  · show (y.toBitVec ^^^ BitVec.ofNat 8 (2 ^ r)).getLsbD s = _
    rw [BitVec.getLsbD_xor, flip_mask r hr s hs hne, Bool.xor_false]
theorem turn_spec {w : World} {R : Snap} {L : Asrt} {v : Value} {b : List UInt8} {first : Int} {mask : Reg} (H : Holds w R L) (hr : RdB R.cell? v b) (hb : b.length ≤ 1000000) (hf : -9223372036854775808 ≤ first ∧ first ≤ 9223372036854775807) :
    Calls Try.prog 60 #[v, .int .i64 first, .int .u32 (tn mask)] w fun e w' => ∃ o x, e = .returned o ∧ turnedB b x first ∧ Holds w' R (star (rowB o x) L) := by
  obtain ⟨a, c, rfl⟩ := hr.form
  go_enter Try.func60, Try.ntmps60
  go_wp2_with (with_reducible refine stop_append ?_)
  refine Hold.go (wpList_appendB rfl _ _ rfl rfl rfl (freshB H) (hr.world (H.garbage _)) (by simp only [List.length_nil]; omega) ?_)
  intro v2 w2 H2
  rw [List.nil_append] at H2
  go_wp2_with fail
  obtain ⟨ao, co, rfl⟩ := H2.rowRd.form
  go_loopw [8] (fun i wx => ∃ (j : Nat) (x : List UInt8), i = .int .i64 j ∧ j ≤ 32 ∧ turnedB b x first ∧ Holds wx R (star (row tU8 1 (.slice ao b.length co) b.length (u8s x)) L)) (fun i _ => 32 - (intOf i).toNat)
  case atStart => exact ⟨0, b, rfl, Nat.zero_le _, ⟨rfl, fun _ _ => rfl⟩, H2⟩
  case round =>
    clear H2
    obtain ⟨j, x, rfl, hj, hx, H6⟩ := hrel
    by_cases hlt : j < 32
    · have hxl := hx.1
      have hs : tn mask / (2 : Int) ^ j = tn (mask >>> j) := shr32 mask j
      have ha := and1 (mask >>> j)
      by_cases hskip : (mask >>> j).getLsbD 0 = false ∨ first < 0 ∨ 8 * (b.length : Int) - 1 - j < first
      · by_cases hm0 : (mask >>> j).getLsbD 0 = true
        · rw [hm0, if_pos rfl] at ha
          by_cases hf0 : first < 0
          · have t1 : (decide (first < 0)) = true := by simpa using hf0
            clear hskip hm0
            go_wp2_with fail
            go_roundw
            case rel => exact ⟨j + 1, x, by go_num, hlt, hx, H6⟩
            case measure => simp [intOf]; omega
          · have hf1 : 8 * (b.length : Int) - 1 - j < first := by
              rcases hskip with h | h | h
              · rw [h] at hm0; cases hm0
              · exact absurd h hf0
              · exact h
            have t1 : (decide (first < 0)) = false := by simpa using hf0
            have t2 : (decide (8 * (b.length : Int) - 1 - j < first)) = true := by simpa using hf1
            clear hskip hm0
            go_wp2_with fail
            go_roundw
            case rel => exact ⟨j + 1, x, by go_num, hlt, hx, H6⟩
            case measure => simp [intOf]; omega
        · rw [if_neg hm0] at ha
          clear hskip hm0
          go_wp2_with fail
          go_roundw
          case rel => exact ⟨j + 1, x, by go_num, hlt, hx, H6⟩
          case measure => simp [intOf]; omega
      · obtain ⟨hm1, hf0, hf1⟩ : (mask >>> j).getLsbD 0 = true ∧ 0 ≤ first ∧ first ≤ 8 * (b.length : Int) - 1 - j := by
          refine ⟨?_, by omega, by omega⟩
          cases h : (mask >>> j).getLsbD 0 with
          | true => rfl
          | false => exact absurd (.inl h) hskip
        rw [hm1, if_pos rfl] at ha
        obtain ⟨f, rfl⟩ : ∃ f : Nat, first = f := ⟨first.toNat, by omega⟩
        obtain ⟨m, hm⟩ : ∃ m, m = f + j := ⟨_, rfl⟩
        obtain ⟨k, hk⟩ : ∃ k, k = m / 8 := ⟨_, rfl⟩
        obtain ⟨r, hrr⟩ : ∃ r, r = m % 8 := ⟨_, rfl⟩
        have hat : (f : Int) + (j : Int) = (m : Int) := by omega
        have hq : (m : Int).tdiv 8 = (k : Int) := by rw [Int.tdiv_eq_ediv_of_nonneg (by omega)]; omega
        have hrm : (m : Int).tmod 8 = (r : Int) := by rw [Int.tmod_eq_emod_of_nonneg (by omega)]; omega
        have hkl : k < b.length := by omega
        have hr8 : r < 8 := by omega
        have t1 : (decide ((f : Int) < 0)) = false := by simp
        have t2 : (decide (8 * (b.length : Int) - 1 - j < f)) = false := by simp; omega
        have HK := Hid.mk' (And.intro hm (And.intro hk hrr))
        clear hskip hm1 hm hk hrr
        obtain ⟨g, cap, e1, hc, hg2, hcl, hfz⟩ := H6.rowAt (by omega)
        simp only [Value.slice.injEq, true_and] at e1
        obtain ⟨rfl, rfl⟩ := e1
        have hkx : k < x.length := by rw [hxl]; exact hkl
        have ck := hcl k (.int .u8 (x[k].toNat : Int)) (by rw [u8s, List.getElem?_map, List.getElem?_eq_getElem hkx]; rfl)
        have fk := hfz k
        have hy : x.getD k 0 = x[k] := by rw [List.getD_eq_getElem?_getD, List.getElem?_eq_getElem hkx]; rfl
        obtain ⟨z, hz, hzb⟩ := flip_bit x[k] r hr8
        rw [← hy] at hz hzb ck
        generalize x.getD k 0 = y at hz ck
        have HZ := Hid.mk' hzb
        have HX := Hid.mk' hx
        have hnew : turnedB b (x.set k z) (f : Int) := by
          obtain ⟨h1, h2, h3⟩ := HK.out
          refine ⟨by rw [List.length_set]; exact hxl, fun i hi => ?_⟩
          rw [← hx.2 i hi, h2]
          refine bitAt_set (by omega) (by rw [← h2]; exact hkx) (fun s hs hne => ?_)
          rw [← h2]
          exact hzb s hs (by omega)
        have HNW := Hid.mk' hnew
        have i1 : (0 : Int) ≤ (k : Int) := by omega
        have i2 : (k : Int) < (b.length : Int) := by omega
        have wk : IntKind.i64.wrap (k : Int) = (k : Int) := IntWalk.i64_in _ (by omega)
        clear hcl hfz hy hzb hx hnew
        have hfin : ∀ w', w' = wr.drew.setCell ⟨g, k, none⟩ (.int .u8 (z.toNat : Int)) → Holds w' R (star (row tU8 1 (.slice (some ⟨g, 0, none⟩) b.length co) b.length (u8s (x.set k z))) L) := by
          rintro w' rfl
          have h := row_write H6.drew k (z.toNat : Int) hkl (by have := u8_lt z; omega)
          rw [Int.toNat_natCast, show UInt8.ofNat z.toNat = z by simp] at h
          exact h
        have HF := Hid.mk' hfin
        clear hfin
        rcases (by omega : r = 0 ∨ r = 1 ∨ r = 2 ∨ r = 3 ∨ r = 4 ∨ r = 5 ∨ r = 6 ∨ r = 7) with rfl | rfl | rfl | rfl | rfl | rfl | rfl | rfl
        · have hz2 : bits .xor .u8 (y.toNat : Int) 1 = (z.toNat : Int) := hz
          clear hz
          go_wp2_with fail
          go_still_tail 13, (by kernel_rfl)
          change wpList _ _ _ _ _ wr.drew
          go_wp2_with fail
          go_roundw
          case rel => exact ⟨j + 1, x.set k z, by go_num, hlt, HNW.out, HF.out _ rfl⟩
          case measure => simp [intOf]; omega
        · have hz2 : bits .xor .u8 (y.toNat : Int) 2 = (z.toNat : Int) := hz
          clear hz
          go_wp2_with fail
          go_still_tail 13, (by kernel_rfl)
          change wpList _ _ _ _ _ wr.drew
          go_wp2_with fail
          go_roundw
          case rel => exact ⟨j + 1, x.set k z, by go_num, hlt, HNW.out, HF.out _ rfl⟩
          case measure => simp [intOf]; omega
        · have hz2 : bits .xor .u8 (y.toNat : Int) 4 = (z.toNat : Int) := hz
          clear hz
          go_wp2_with fail
          go_still_tail 13, (by kernel_rfl)
          change wpList _ _ _ _ _ wr.drew
          go_wp2_with fail
          go_roundw
          case rel => exact ⟨j + 1, x.set k z, by go_num, hlt, HNW.out, HF.out _ rfl⟩
          case measure => simp [intOf]; omega
        · have hz2 : bits .xor .u8 (y.toNat : Int) 8 = (z.toNat : Int) := hz
          clear hz
          go_wp2_with fail
          go_still_tail 13, (by kernel_rfl)
          change wpList _ _ _ _ _ wr.drew
          go_wp2_with fail
          go_roundw
          case rel => exact ⟨j + 1, x.set k z, by go_num, hlt, HNW.out, HF.out _ rfl⟩
          case measure => simp [intOf]; omega
        · have hz2 : bits .xor .u8 (y.toNat : Int) 16 = (z.toNat : Int) := hz
          clear hz
          go_wp2_with fail
          go_still_tail 13, (by kernel_rfl)
          change wpList _ _ _ _ _ wr.drew
          go_wp2_with fail
          go_roundw
          case rel => exact ⟨j + 1, x.set k z, by go_num, hlt, HNW.out, HF.out _ rfl⟩
          case measure => simp [intOf]; omega
        · have hz2 : bits .xor .u8 (y.toNat : Int) 32 = (z.toNat : Int) := hz
          clear hz
          go_wp2_with fail
          go_still_tail 13, (by kernel_rfl)
          change wpList _ _ _ _ _ wr.drew
          go_wp2_with fail
          go_roundw
          case rel => exact ⟨j + 1, x.set k z, by go_num, hlt, HNW.out, HF.out _ rfl⟩
          case measure => simp [intOf]; omega
        · have hz2 : bits .xor .u8 (y.toNat : Int) 64 = (z.toNat : Int) := hz
          clear hz
          go_wp2_with fail
          go_still_tail 13, (by kernel_rfl)
          change wpList _ _ _ _ _ wr.drew
          go_wp2_with fail
          go_roundw
          case rel => exact ⟨j + 1, x.set k z, by go_num, hlt, HNW.out, HF.out _ rfl⟩
          case measure => simp [intOf]; omega
        · have hz2 : bits .xor .u8 (y.toNat : Int) 128 = (z.toNat : Int) := hz
          clear hz
          go_wp2_with fail
          go_still_tail 13, (by kernel_rfl)
          change wpList _ _ _ _ _ wr.drew
          go_wp2_with fail
          go_roundw
          case rel => exact ⟨j + 1, x.set k z, by go_num, hlt, HNW.out, HF.out _ rfl⟩
          case measure => simp [intOf]; omega
    · go_wp2_with fail
      go_ret
      exact ⟨_, x, rfl, hx, by unfold rowB; rw [hx.1]; exact H6⟩
end Sh
/- sherdref25.Put. -/
set_option linter.unusedVariables false
set_option linter.unusedSimpArgs false
namespace Sh
open Go Go.RowKit Go.Proofs
attribute [local go_sem ↓] Go.wp_at_zero Go.wp_at_succ
set_option maxHeartbeats 1000000
set_option maxRecDepth 100000

theorem nb_byte {n : Int} (h0 : 0 ≤ n) : nb 1 n = [UInt8.ofNat n.toNat] := by
  obtain ⟨k, rfl⟩ := Int.eq_ofNat_of_zero_le h0
  rw [nb_one]; simp
set_option maxHeartbeats 8000000
theorem rmput_ok {w : World} {R : Snap} {L : Asrt} (m : Ms) (H : Holds w R L) (hm : m.Rd R.cell?) (hz : m.Sz) (hok : msgOk m = true) :
    Calls Try.prog 57 #[.agg m.cells.toArray] w fun e w' => ∃ o, e = .returned o ∧ Holds w' R (star (rowB o (putM m)) L) := by
  have HM := Hid.mk' hm
  have HZ := Hid.mk' hz
  have HOK := Hid.mk' hok
  have hk := hok
  simp only [msgOk, Bool.and_eq_true, decide_eq_true_eq, Bool.or_eq_true] at hk
  obtain ⟨⟨⟨⟨⟨⟨⟨⟨⟨⟨k1, k2⟩, k3⟩, k4⟩, k5⟩, k6⟩, k7⟩, k8⟩, k9⟩, k10⟩, k11⟩ := hk
  have f1 := inAll_mem k4 (x := m.from_) (by simp)
  have f2 := inAll_mem k4 (x := m.to_) (by simp)
  have f3 := inAll_mem k5 (x := m.ballot) (by simp)
  have f4 := inAll_mem k5 (x := m.attempt) (by simp)
  have f5 := inAll_mem k5 (x := m.epoch) (by simp)
  have f6 := inAll_mem k5 (x := m.mark) (by simp)
  have f7 := inAll_mem k7 (x := m.size) (by simp)
  have f8 := inAll_mem k7 (x := (m.data.length : Int)) (by simp)
  have f9 := inAll_mem k8 (x := m.what) (by simp)
  have f10 := inAll_mem k8 (x := (m.who.length : Int)) (by simp)
  obtain ⟨kind, from_, to_, ballot, name, attempt, epoch, mark, size, what, vw, vn, vd, who, names, data⟩ := m
  obtain ⟨hw, hn, hd⟩ := hm
  obtain ⟨z1, z2, z3, z4, z5⟩ := hz
  simp only at z1 z2 z3 z4 z5 hw hn hd
  obtain ⟨aw, cw, rfl⟩ := hw.form
  obtain ⟨an, cn, rfl⟩ := hn.form
  obtain ⟨ad, cd, rfl⟩ := hd.form
  simp only at k1 k2 k6 k9 k10 k11 f1 f2 f3 f4 f5 f6 f7 f8 f9 f10
  obtain ⟨R1, le1, H1, hb⟩ := H.allocR (.cells #[.int .i64 kind, .int .i64 from_, .int .i64 to_, .int .i64 ballot, .string name, .int .i64 attempt, .int .i64 epoch, .int .i64 mark, .int .i64 size, .int .i64 what, .slice aw who.length cw, .slice an names.length cn, .slice ad data.length cd] tMsg (0, 0))
  have HW := Hid.mk' (Rd.le hw le1)
  have HN := Hid.mk' (Rd.le hn le1)
  have HD := Hid.mk' (Rd.le hd le1)
  have K6 := Hid.mk' k6
  have K10 := Hid.mk' k10
  have LE := Hid.mk' le1
  clear hw hn hd hok H k3 k4 k5 k7 k8 k6 k10 le1
  obtain ⟨l1, n1, c1⟩ := Holds.frzFacts (H1) hb
  show Calls _ _ #[.agg #[.int .i64 kind, .int .i64 from_, .int .i64 to_, .int .i64 ballot, .string name, .int .i64 attempt, .int .i64 epoch, .int .i64 mark, .int .i64 size, .int .i64 what, .slice aw who.length cw, .slice an names.length cn, .slice ad data.length cd]] _ _
  go_enter Try.func57, Try.ntmps57
  go_upto_region 2 with fail
  have hk8 : ((UInt8.ofNat kind.toNat).toNat : Int) = kind := by
    rw [UInt8.toNat_ofNat']; omega
  have H2 := H1.alloc #[.int .u8 77, .int .u8 kind] tU8
  have H3 := blkB (n := 2) H2 [77, UInt8.ofNat kind.toNat] (by
    show [Value.int .u8 77, Value.int .u8 kind] = [Value.int .u8 ((77 : UInt8).toNat : Int), Value.int .u8 ((UInt8.ofNat kind.toNat).toNat : Int)]
    rw [hk8]; rfl) rfl (by simp)
  clear hk8
  have eT : [77, UInt8.ofNat kind.toNat] = nb 1 77 ++ nb 1 kind := by rw [nb_byte (by omega), nb_byte (by omega)]; rfl
  rw [eT] at H3
  obtain ⟨T0, hT⟩ : ∃ T0, T0 = nb 1 77 ++ nb 1 kind := ⟨_, rfl⟩
  have hl : T0.length ≤ 2 := by rw [hT]; simp [nb_length, wid_1]
  rw [← hT] at H3
  have HT0 := Hid.mk' hT
  clear hT H1 H2 l1 n1 c1 eT
  rw [World.size_alloc] at H3
  generalize (World.alloc ..) = w3 at H3 ⊢
  generalize (w.heap.size + 1) = g3 at H3 ⊢
  obtain ⟨l1, n1, c1⟩ := Holds.frzFacts (H3) hb
  go_wp2_with fail
  refine (refnum_spec (k := 2) (n := from_) H3 (by omega)).mono ?_
  rintro e w4 ⟨o, rfl, H4⟩
  obtain ⟨ao, co, rfl⟩ := H4.rowRd.form
  have hrd : RdB w4.cell? (.slice ao (nb 2 from_).length co) (nb 2 from_) := H4.rowRd
  have hlk : (nb 2 from_).length ≤ 256 := by rw [nb_length, wid_2]; omega
  have H6 : Holds w4 R1 (star (rowB _ T0) (star (rowB _ (nb 2 from_)) L)) := H4.swap
  clear H3 l1 n1 c1
  go_wp2_with (with_reducible refine stop_append ?_)
  refine Hold.go (wpList_appendB (l := T0) (k := nb 2 from_) rfl _ _ rfl rfl rfl H6 hrd (by have h9 := hlk; omega) ?_)
  intro v5 w5 H5
  obtain ⟨T1, hT⟩ : ∃ T, T = T0 ++ nb 2 from_ := ⟨_, rfl⟩
  have hl1 : T1.length ≤ 6 := by rw [hT, List.length_append]; rw [nb_length]; simp only [wid_1, wid_2, wid_4]; omega
  rw [← hT] at H5
  have HT1 := Hid.mk' hT
  have H3 := H5.drop2
  clear hT hrd hlk H4 H6 H5 hl
  go_upto_region 3 with fail
  obtain ⟨l1, n1, c1⟩ := Holds.frzFacts (H3) hb
  go_wp2_with fail
  refine (refnum_spec (k := 2) (n := to_) H3 (by omega)).mono ?_
  rintro e w4 ⟨o, rfl, H4⟩
  obtain ⟨ao, co, rfl⟩ := H4.rowRd.form
  have hrd : RdB w4.cell? (.slice ao (nb 2 to_).length co) (nb 2 to_) := H4.rowRd
  have hlk : (nb 2 to_).length ≤ 256 := by rw [nb_length, wid_2]; omega
  have H6 : Holds w4 R1 (star (rowB _ T1) (star (rowB _ (nb 2 to_)) L)) := H4.swap
  clear H3 l1 n1 c1
  go_wp2_with (with_reducible refine stop_append ?_)
  refine Hold.go (wpList_appendB (l := T1) (k := nb 2 to_) rfl _ _ rfl rfl rfl H6 hrd (by have h9 := hlk; omega) ?_)
  intro v5 w5 H5
  obtain ⟨T2, hT⟩ : ∃ T, T = T1 ++ nb 2 to_ := ⟨_, rfl⟩
  have hl2 : T2.length ≤ 10 := by rw [hT, List.length_append]; rw [nb_length]; simp only [wid_1, wid_2, wid_4]; omega
  rw [← hT] at H5
  have HT2 := Hid.mk' hT
  have H3 := H5.drop2
  clear hT hrd hlk H4 H6 H5 hl1
  go_upto_region 4 with fail
  obtain ⟨l1, n1, c1⟩ := Holds.frzFacts (H3) hb
  go_wp2_with fail
  refine (refnum_spec (k := 4) (n := ballot) H3 (by omega)).mono ?_
  rintro e w4 ⟨o, rfl, H4⟩
  obtain ⟨ao, co, rfl⟩ := H4.rowRd.form
  have hrd : RdB w4.cell? (.slice ao (nb 4 ballot).length co) (nb 4 ballot) := H4.rowRd
  have hlk : (nb 4 ballot).length ≤ 256 := by rw [nb_length, wid_4]; omega
  have H6 : Holds w4 R1 (star (rowB _ T2) (star (rowB _ (nb 4 ballot)) L)) := H4.swap
  clear H3 l1 n1 c1
  go_wp2_with (with_reducible refine stop_append ?_)
  refine Hold.go (wpList_appendB (l := T2) (k := nb 4 ballot) rfl _ _ rfl rfl rfl H6 hrd (by have h9 := hlk; omega) ?_)
  intro v5 w5 H5
  obtain ⟨T3, hT⟩ : ∃ T, T = T2 ++ nb 4 ballot := ⟨_, rfl⟩
  have hl3 : T3.length ≤ 14 := by rw [hT, List.length_append]; rw [nb_length]; simp only [wid_1, wid_2, wid_4]; omega
  rw [← hT] at H5
  have HT3 := Hid.mk' hT
  have H3 := H5.drop2
  clear hT hrd hlk H4 H6 H5 hl2
  go_upto_region 5 with fail
  obtain ⟨l1, n1, c1⟩ := Holds.frzFacts (H3) hb
  obtain ⟨a9, c9, w9, hconv, R2, le2, H9, hs9⟩ := convBytes H3 z1
  go_wp2_with fail
  have hlen9 : (strB name).length ≤ 16 := by
    rw [strB_len]
    rcases k11 with k | k
    · omega
    · exact nameOk_len k
  refine (reftext_spec H9 hs9 (by omega)).mono ?_
  rintro e w4 ⟨o, rfl, H4⟩
  replace H4 : Holds w4 R2 (star (rowB o (txS name)) _) := H4
  replace hb := le2.blk _ _ hb
  have hlt9 : (txS name).length ≤ 256 := tx_len _
  clear hconv hs9
  obtain ⟨ao, co, rfl⟩ := H4.rowRd.form
  have hrd : RdB w4.cell? (.slice ao (txS name).length co) (txS name) := H4.rowRd
  have hlk : (txS name).length ≤ 256 := hlt9
  have H6 : Holds w4 R2 (star (rowB _ T3) (star (rowB _ (txS name)) L)) := H4.swap
  clear H3 l1 n1 c1
  go_wp2_with (with_reducible refine stop_append ?_)
  refine Hold.go (wpList_appendB (l := T3) (k := txS name) rfl _ _ rfl rfl rfl H6 hrd (by have h9 := hlk; omega) ?_)
  intro v5 w5 H5
  obtain ⟨T4, hT⟩ : ∃ T, T = T3 ++ txS name := ⟨_, rfl⟩
  have hl4 : T4.length ≤ 270 := by rw [hT, List.length_append]; omega
  rw [← hT] at H5
  have HT4 := Hid.mk' hT
  have H3 := H5.drop2
  clear hT hrd hlk H4 H6 H5 hl3
  go_upto_region 6 with fail
  obtain ⟨l1, n1, c1⟩ := Holds.frzFacts (H3) hb
  go_wp2_with fail
  refine (refnum_spec (k := 4) (n := attempt) H3 (by omega)).mono ?_
  rintro e w4 ⟨o, rfl, H4⟩
  obtain ⟨ao, co, rfl⟩ := H4.rowRd.form
  have hrd : RdB w4.cell? (.slice ao (nb 4 attempt).length co) (nb 4 attempt) := H4.rowRd
  have hlk : (nb 4 attempt).length ≤ 256 := by rw [nb_length, wid_4]; omega
  have H6 : Holds w4 R2 (star (rowB _ T4) (star (rowB _ (nb 4 attempt)) L)) := H4.swap
  clear H3 l1 n1 c1
  go_wp2_with (with_reducible refine stop_append ?_)
  refine Hold.go (wpList_appendB (l := T4) (k := nb 4 attempt) rfl _ _ rfl rfl rfl H6 hrd (by have h9 := hlk; omega) ?_)
  intro v5 w5 H5
  obtain ⟨T5, hT⟩ : ∃ T, T = T4 ++ nb 4 attempt := ⟨_, rfl⟩
  have hl5 : T5.length ≤ 274 := by rw [hT, List.length_append]; rw [nb_length]; simp only [wid_1, wid_2, wid_4]; omega
  rw [← hT] at H5
  have HT5 := Hid.mk' hT
  have H3 := H5.drop2
  clear hT hrd hlk H4 H6 H5 hl4
  go_upto_region 7 with fail
  obtain ⟨l1, n1, c1⟩ := Holds.frzFacts (H3) hb
  go_wp2_with fail
  refine (refnum_spec (k := 4) (n := epoch) H3 (by omega)).mono ?_
  rintro e w4 ⟨o, rfl, H4⟩
  obtain ⟨ao, co, rfl⟩ := H4.rowRd.form
  have hrd : RdB w4.cell? (.slice ao (nb 4 epoch).length co) (nb 4 epoch) := H4.rowRd
  have hlk : (nb 4 epoch).length ≤ 256 := by rw [nb_length, wid_4]; omega
  have H6 : Holds w4 R2 (star (rowB _ T5) (star (rowB _ (nb 4 epoch)) L)) := H4.swap
  clear H3 l1 n1 c1
  go_wp2_with (with_reducible refine stop_append ?_)
  refine Hold.go (wpList_appendB (l := T5) (k := nb 4 epoch) rfl _ _ rfl rfl rfl H6 hrd (by have h9 := hlk; omega) ?_)
  intro v5 w5 H5
  obtain ⟨T6, hT⟩ : ∃ T, T = T5 ++ nb 4 epoch := ⟨_, rfl⟩
  have hl6 : T6.length ≤ 278 := by rw [hT, List.length_append]; rw [nb_length]; simp only [wid_1, wid_2, wid_4]; omega
  rw [← hT] at H5
  have HT6 := Hid.mk' hT
  have H3 := H5.drop2
  clear hT hrd hlk H4 H6 H5 hl5
  go_upto_region 8 with fail
  obtain ⟨l1, n1, c1⟩ := Holds.frzFacts (H3) hb
  go_wp2_with fail
  refine (refnum_spec (k := 4) (n := mark) H3 (by omega)).mono ?_
  rintro e w4 ⟨o, rfl, H4⟩
  obtain ⟨ao, co, rfl⟩ := H4.rowRd.form
  have hrd : RdB w4.cell? (.slice ao (nb 4 mark).length co) (nb 4 mark) := H4.rowRd
  have hlk : (nb 4 mark).length ≤ 256 := by rw [nb_length, wid_4]; omega
  have H6 : Holds w4 R2 (star (rowB _ T6) (star (rowB _ (nb 4 mark)) L)) := H4.swap
  clear H3 l1 n1 c1
  go_wp2_with (with_reducible refine stop_append ?_)
  refine Hold.go (wpList_appendB (l := T6) (k := nb 4 mark) rfl _ _ rfl rfl rfl H6 hrd (by have h9 := hlk; omega) ?_)
  intro v5 w5 H5
  obtain ⟨T7, hT⟩ : ∃ T, T = T6 ++ nb 4 mark := ⟨_, rfl⟩
  have hl7 : T7.length ≤ 282 := by rw [hT, List.length_append]; rw [nb_length]; simp only [wid_1, wid_2, wid_4]; omega
  rw [← hT] at H5
  have HT7 := Hid.mk' hT
  have H3 := H5.drop2
  clear hT hrd hlk H4 H6 H5 hl6
  go_upto_region 9 with fail
  obtain ⟨l1, n1, c1⟩ := Holds.frzFacts (H3) hb
  go_wp2_with fail
  refine (refnum_spec (k := 2) (n := size) H3 (by omega)).mono ?_
  rintro e w4 ⟨o, rfl, H4⟩
  obtain ⟨ao, co, rfl⟩ := H4.rowRd.form
  have hrd : RdB w4.cell? (.slice ao (nb 2 size).length co) (nb 2 size) := H4.rowRd
  have hlk : (nb 2 size).length ≤ 256 := by rw [nb_length, wid_2]; omega
  have H6 : Holds w4 R2 (star (rowB _ T7) (star (rowB _ (nb 2 size)) L)) := H4.swap
  clear H3 l1 n1 c1
  go_wp2_with (with_reducible refine stop_append ?_)
  refine Hold.go (wpList_appendB (l := T7) (k := nb 2 size) rfl _ _ rfl rfl rfl H6 hrd (by have h9 := hlk; omega) ?_)
  intro v5 w5 H5
  obtain ⟨T8, hT⟩ : ∃ T, T = T7 ++ nb 2 size := ⟨_, rfl⟩
  have hl8 : T8.length ≤ 286 := by rw [hT, List.length_append]; rw [nb_length]; simp only [wid_1, wid_2, wid_4]; omega
  rw [← hT] at H5
  have HT8 := Hid.mk' hT
  have H3 := H5.drop2
  clear hT hrd hlk H4 H6 H5 hl7
  go_upto_region 10 with fail
  obtain ⟨l1, n1, c1⟩ := Holds.frzFacts (H3) hb
  go_wp2_with (with_reducible refine stop_append ?_)
  have hk8 : ((UInt8.ofNat what.toNat).toNat : Int) = what := by
    rw [UInt8.toNat_ofNat']; omega
  have hk9 : ((UInt8.ofNat (who.length : Int).toNat).toNat : Int) = (who.length : Int) := by
    rw [UInt8.toNat_ofNat']; omega
  have H4 := H3.alloc #[.int .u8 what, .int .u8 (who.length : Int)] tU8
  have H5 := blkB (n := 2) H4 [UInt8.ofNat what.toNat, UInt8.ofNat (who.length : Int).toNat] (by
    show [Value.int .u8 what, Value.int .u8 (who.length : Int)] = [Value.int .u8 ((UInt8.ofNat what.toNat).toNat : Int), Value.int .u8 ((UInt8.ofNat (who.length : Int).toNat).toNat : Int)]
    rw [hk8, hk9]) rfl (by simp)
  have eT : [UInt8.ofNat what.toNat, UInt8.ofNat (who.length : Int).toNat] = nb 1 what ++ nb 1 (who.length : Int) := by rw [nb_byte (by omega), nb_byte (by omega)]; rfl
  rw [eT] at H5
  have hlk : (nb 1 what ++ nb 1 (who.length : Int)).length = 2 := by rw [← eT]; rfl
  have hrd : RdB _ _ (nb 1 what ++ nb 1 (who.length : Int)) := H5.rowRd
  clear hk8 hk9 eT H3 H4
  refine Hold.go (wpList_appendB (l := T8) (k := nb 1 what ++ nb 1 (who.length : Int)) rfl _ _ rfl rfl rfl H5.swap hrd (by omega) ?_)
  intro v5 w5 H6
  clear l1 n1 c1
  obtain ⟨T9, hT⟩ : ∃ T, T = T8 ++ (nb 1 what ++ nb 1 (who.length : Int)) := ⟨_, rfl⟩
  have hl9 : T9.length ≤ 1000 := by rw [hT, List.length_append]; omega
  rw [← hT] at H6
  have HT9 := Hid.mk' hT
  have H3 := H6.drop2
  clear hT hrd hlk H5 H6 hl8
  go_upto_region 11 with fail
  go_wp2_with fail
  go_loopw [3, 4] (fun o i wx => ∃ j : Nat, i = .int .i64 j ∧ j ≤ who.length ∧ Holds wx R2 (star (rowB o (T9 ++ (who.take j).flatMap (nb 4))) L)) (fun _ i _ => who.length - (intOf i).toNat)
  case atStart => exact ⟨0, rfl, Nat.zero_le _, by simpa using H3⟩
  case round =>
    clear H3
    obtain ⟨j, rfl, hj, H4⟩ := hrel
    obtain ⟨l1, n1, c1⟩ := Holds.frzFacts (H4) hb
    by_cases hlt : j < who.length
    · obtain ⟨b1, o1, ha, hc⟩ := rdI_at (Rd.world (Rd.le HW.out le2) H4) hlt
      subst ha
      have hx := (inAll_mem K6.out (List.getElem_mem hlt)).2
      have hs : Hid ((who.take (j + 1)).flatMap (nb 4) = (who.take j).flatMap (nb 4) ++ nb 4 (who[j])) := Hid.mk' (by
        rw [List.take_succ_eq_append_getElem hlt, List.flatMap_append]; simp)
      have hl10 : (T9 ++ (who.take j).flatMap (nb 4)).length ≤ 1000000 := by
        rw [List.length_append, flatB_len (k := 4) (fun x => by rw [nb_length, wid_4]), List.length_take]; omega
      generalize who[j] = x at hc hx hs
      go_wp2_with fail
      refine (refnum_spec (k := 4) (n := x) H4 (by omega)).mono ?_
      rintro e w5 ⟨o5, rfl, H5⟩
      obtain ⟨ao, co, rfl⟩ := H5.rowRd.form
      have hrd : RdB w5.cell? (.slice ao (nb 4 x).length co) (nb 4 x) := H5.rowRd
      have hlk : (nb 4 x).length = 4 := by rw [nb_length, wid_4]
      have H6 := H5.swap
      clear H4 l1 n1 c1
      go_wp2_with (with_reducible refine stop_append ?_)
      refine Hold.go (wpList_appendB (l := T9 ++ (who.take j).flatMap (nb 4)) (k := nb 4 x) rfl _ _ rfl rfl rfl H6 hrd (by omega) ?_)
      intro v7 w7 H7
      go_wp2_with fail
      go_roundw
      case rel => exact ⟨j + 1, by go_num, hlt, by rw [hs.out, ← List.append_assoc]; exact H7.drop2⟩
      case measure => simp [intOf]; omega
    · obtain rfl : j = who.length := by omega
      rw [List.take_length] at H4
      obtain ⟨T10, hT⟩ : ∃ T, T = T9 ++ who.flatMap (nb 4) := ⟨_, rfl⟩
      have hl10 : T10.length ≤ 3000 := by
        rw [hT, List.length_append, flatB_len (k := 4) (fun x => by rw [nb_length, wid_4])]; omega
      rw [← hT] at H4
      have HT10 := Hid.mk' hT
      clear hT hl9
      go_wp2_with (with_reducible refine stop_append ?_)
      have hk9 : ((UInt8.ofNat names.length).toNat : Int) = (names.length : Int) := by
        rw [UInt8.toNat_ofNat']; omega
      have H5 := H4.alloc #[.int .u8 (names.length : Int)] tU8
      have H6 := blkB (n := 1) H5 [UInt8.ofNat names.length] (by
        show [Value.int .u8 (names.length : Int)] = [Value.int .u8 ((UInt8.ofNat names.length).toNat : Int)]
        rw [hk9]) rfl (by simp)
      rw [← nb_one] at H6
      have hlk : (nb 1 (names.length : Int)).length = 1 := by rw [nb_length, wid_1]
      have hrd : RdB _ _ (nb 1 (names.length : Int)) := H6.rowRd
      clear hk9 H4 H5
      refine Hold.go (wpList_appendB (l := T10) (k := nb 1 (names.length : Int)) rfl _ _ rfl rfl rfl H6.swap hrd (by omega) ?_)
      intro v7 w7 H7
      clear l1 n1 c1
      obtain ⟨T11, hT⟩ : ∃ T, T = T10 ++ nb 1 (names.length : Int) := ⟨_, rfl⟩
      have hl11 : T11.length ≤ 3001 := by rw [hT, List.length_append]; omega
      rw [← hT] at H7
      have HT11 := Hid.mk' hT
      have H3 := H7.drop2
      clear hT hrd hlk H6 H7 hl10
      go_wp2_with fail
      go_loopw [3, 5] (fun o i wx => ∃ (j : Nat) (R3 : Snap), i = .int .i64 j ∧ j ≤ names.length ∧ R2.le R3 ∧ Holds wx R3 (star (rowB o (T11 ++ (names.take j).flatMap txS)) L)) (fun _ i _ => names.length - (intOf i).toNat)
      case atStart => exact ⟨0, R2, rfl, Nat.zero_le _, Snap.le.refl _, by simpa using H3⟩
      case round =>
        clear H3
        obtain ⟨j, R3, rfl, hj, le3, H4⟩ := hrel
        have hb3 := le3.blk _ _ hb
        obtain ⟨l1, n1, c1⟩ := Holds.frzFacts (H4) hb3
        by_cases hlt : j < names.length
        · obtain ⟨b1, o1, ha, hc⟩ := rdS_at (Rd.world (Rd.le (Rd.le HN.out le2) le3) H4) hlt
          subst ha
          have hx16 := nameOk_len (List.all_eq_true.1 K10.out _ (List.getElem_mem hlt))
          have hxm := z2 _ (List.getElem_mem hlt)
          have hs : Hid ((names.take (j + 1)).flatMap txS = (names.take j).flatMap txS ++ txS (names[j])) := Hid.mk' (by
            rw [List.take_succ_eq_append_getElem hlt, List.flatMap_append]; simp)
          have hl12 : (T11 ++ (names.take j).flatMap txS).length ≤ 900000 := by
            rw [List.length_append]
            have := txs_len K10.out j
            omega
          generalize names[j] = x at hc hx16 hxm hs
          obtain ⟨a9, c9, w22, hconv, R4, le4, H5, hs22⟩ := convBytes H4 hxm
          go_wp2_with fail
          refine (reftext_spec H5 hs22 (by rw [strB_len]; omega)).mono ?_
          rintro e w6 ⟨o6, rfl, H6⟩
          replace H6 : Holds w6 R4 (star (rowB o6 (txS x)) _) := H6
          obtain ⟨ao, co, rfl⟩ := H6.rowRd.form
          have hrd : RdB w6.cell? (.slice ao (txS x).length co) (txS x) := H6.rowRd
          have hlk : (txS x).length ≤ 256 := tx_len _
          have H7 := H6.swap
          clear H4 H5 l1 n1 c1 hconv
          go_wp2_with (with_reducible refine stop_append ?_)
          refine Hold.go (wpList_appendB (l := T11 ++ (names.take j).flatMap txS) (k := txS x) rfl _ _ rfl rfl rfl H7 hrd (by omega) ?_)
          intro v8 w8 H8
          go_wp2_with fail
          go_roundw
          case rel => exact ⟨j + 1, R4, by go_num, hlt, le3.trans le4, by rw [hs.out, ← List.append_assoc]; exact H8.drop2⟩
          case measure => simp [intOf]; omega
        · obtain rfl : j = names.length := by omega
          rw [List.take_length] at H4
          have hl12 : (T11 ++ names.flatMap txS).length ≤ 900000 := by
            rw [List.length_append]
            have := txs_len K10.out names.length
            rw [List.take_length] at this
            omega
          go_wp2_with fail
          refine (reftext_spec H4 (Rd.le (Rd.le HD.out le2) le3) z5).mono ?_
          rintro e w6 ⟨o6, rfl, H6⟩
          replace H6 : Holds w6 R3 (star (rowB o6 (tx data)) _) := H6
          obtain ⟨ao, co, rfl⟩ := H6.rowRd.form
          have hrd : RdB w6.cell? (.slice ao (tx data).length co) (tx data) := H6.rowRd
          have hlk : (tx data).length ≤ 256 := tx_len _
          have H7 := H6.swap
          clear H4 l1 n1 c1
          go_wp2_with (with_reducible refine stop_append ?_)
          refine Hold.go (wpList_appendB (l := T11 ++ names.flatMap txS) (k := tx data) rfl _ _ rfl rfl rfl H7 hrd (by omega) ?_)
          intro v8 w8 H8
          have e24 : T11 ++ names.flatMap txS ++ tx data = bodyB (⟨kind, from_, to_, ballot, name, attempt, epoch, mark, size, what, .slice aw who.length cw, .slice an names.length cn, .slice ad data.length cd, who, names, data⟩ : Ms) := by
            rw [HT11.out, HT10.out, HT9.out, HT8.out, HT7.out, HT6.out, HT5.out, HT4.out, HT3.out, HT2.out, HT1.out, HT0.out]
            simp only [bodyB, bodyS, List.append_assoc, List.append_nil]
          have hbl : (bodyB (⟨kind, from_, to_, ballot, name, attempt, epoch, mark, size, what, .slice aw who.length cw, .slice an names.length cn, .slice ad data.length cd, who, names, data⟩ : Ms)).length ≤ 1000000 := by have := body_len HOK.out; omega
          rw [e24] at H8
          obtain ⟨R9, le9, H9, hr9⟩ := H8.drop2.freezeRow
          clear e24 hrd hlk H6 H7 H8
          go_wp2_with fail
          refine (cseal_ref H9 hr9 hbl).mono ?_
          rintro e w10 ⟨o, rfl, H10⟩
          go_wp2_with fail
          go_ret
          exact ⟨o, rfl, H10.weaken (((LE.out.trans le2).trans le3).trans le9)⟩
end Sh
/- sherdref18.Text, Check. -/
set_option linter.unusedVariables false
set_option linter.unusedSimpArgs false
namespace Sh
open Go Go.RowKit Go.Proofs
attribute [local go_sem ↓] Go.wp_at_zero Go.wp_at_succ
set_option maxHeartbeats 1000000
set_option maxRecDepth 100000

theorem textC_step {E : List En} {j : Nat} (h : j < E.length) (n : Int) : nb 2 n ++ (E.take (j + 1)).flatMap entC = nb 2 n ++ (E.take j).flatMap entC ++ entC E[j] := by
  rw [List.take_succ_eq_append_getElem h, List.flatMap_append, List.append_assoc]
  simp
theorem entC_yes {a : Int} {d : List UInt8} (h : d.length ≠ 0) : entC (a, d) = nb 2 a ++ [1] ++ d := by
  show nb 2 a ++ (nb 1 (min d.length 1 : Nat) ++ d) = _
  rw [Nat.min_eq_right (by omega), nb_one, List.append_assoc]; rfl
theorem entC_no {a : Int} {d : List UInt8} (h : d.length = 0) : entC (a, d) = nb 2 a ++ [0] := by
  obtain rfl : d = [] := List.eq_nil_of_length_eq_zero h
  show nb 2 a ++ (nb 1 (min 0 1 : Nat) ++ []) = _
  rw [nb_one]; rfl
theorem flat_len_le {E : List En} {j : Nat} (n : Int) : (nb 2 n ++ (E.take j).flatMap entC).length = sizeC (E.take j) := by
  have := textC_len (E.take j)
  rw [textC, List.length_append, nb_length] at this
  rw [List.length_append, nb_length]; exact this
set_option maxHeartbeats 4000000
theorem chText_spec {w : World} {R : Snap} {L : Asrt} {v : Value} {cs : List Ch} (H : Holds w R L) (hr : RdC R.cell? v cs) (hz : SzC cs) (hp : ∀ x ∈ cs, x.at_ ≤ 9223372036854775807) :
    Calls Try.prog 144 #[v] w fun e w' => ∃ o, e = .returned o ∧ Holds w' R (star (rowB o (textC (conC cs))) L) := by
  obtain ⟨a, c, rfl⟩ := hr.form
  obtain ⟨n, hn⟩ : ∃ n, n = cs.length := ⟨_, rfl⟩
  obtain ⟨E, hE⟩ : ∃ E, E = conC cs := ⟨_, rfl⟩
  have HR := Hid.mk' hr
  have HN := Hid.mk' hn
  have HZ := Hid.mk' hz
  have HP := Hid.mk' hp
  have HE := Hid.mk' hE
  have hn9 : n ≤ 1000 := by rw [hn]; exact hz.1
  have HEL : Hid (E.length = n) := Hid.mk' (by rw [hE, conC_len, hn])
  have HEG : Hid (∀ j (h : j < cs.length) (h2 : j < E.length), E[j] = (cs[j].at_, cs[j].data)) := Hid.mk' (fun j h h2 => by
    have := conC_get h
    rw [← hE, List.getElem?_eq_getElem h2] at this
    exact Option.some.inj this)
  have HS9 : Hid (∀ j, sizeC (E.take j) ≤ 10010000) := Hid.mk' (fun j => by
    have h1 := sizeC_le cs hz j
    have h2 := hz.1
    rw [hE]; omega)
  rw [← hE, ← hn]
  obtain ⟨T, hT⟩ : ∃ T : Nat → List UInt8, T = fun j => nb 2 (n : Nat) ++ (E.take j).flatMap entC := ⟨_, rfl⟩
  have HT0 : Hid (T 0 = nb 2 (n : Nat)) := Hid.mk' (by rw [hT]; simp)
  have HTS : Hid (∀ j (h : j < E.length), T (j + 1) = T j ++ entC E[j]) := Hid.mk' (fun j h => by rw [hT]; exact textC_step h _)
  have HTL : Hid (∀ j, (T j).length ≤ 10010000) := Hid.mk' (fun j => by rw [hT]; show (nb 2 _ ++ _).length ≤ _; rw [flat_len_le]; exact HS9.out j)
  have HTN : Hid (T n = textC E) := Hid.mk' (by rw [hT, ← HEL.out]; show nb 2 _ ++ (E.take _).flatMap entC = _; rw [List.take_length]; rfl)
  rw [← HTN.out]
  clear hr hn hz hE hT hp
  go_enter Try.func144, Try.ntmps144
  go_wp2_with fail
  refine (refnum_spec (k := 2) (n := (n : Nat)) H (by omega)).mono ?_
  rintro e w1 ⟨o1, rfl, H1⟩
  rw [← HT0.out] at H1
  clear H
  go_wp2_with fail
  go_loopw [3, 4] (fun s i wx => ∃ (j : Nat), i = .int .i64 j ∧ j ≤ n ∧ Holds wx R (star (rowB s (T j)) L)) (fun _ i _ => n - (intOf i).toNat)
  case atStart => exact ⟨0, rfl, Nat.zero_le _, H1⟩
  case round =>
    clear H1
    obtain ⟨j, rfl, hj, H3⟩ := hrel
    by_cases hlt : j < n
    · have d1 : decide ((j : Int) < (n : Int)) = true := by simp; omega
      have hjs : j < cs.length := by rw [← HN.out]; exact hlt
      have hjE : j < E.length := by rw [HEL.out]; exact hlt
      obtain ⟨b2, o2, rfl, hc0, hc1, hq⟩ := RdC.at HR.out hjs
      have he := HEG.out j hjs hjE
      have hts := HTS.out j hjE
      have htl := HTL.out (j + 1)
      have hpx := HP.out _ (List.getElem_mem hjs)
      have hdx := HZ.out.2 _ (List.getElem_mem hjs)
      rw [he] at hts
      generalize cs[j] = x at *
      obtain ⟨xa, xv, xd⟩ := x
      simp only at hc0 hc1 hq hts hpx hdx
      obtain ⟨ax, cx, rfl⟩ := hq.form
      obtain ⟨l, hl⟩ : ∃ l, l = xd.length := ⟨_, rfl⟩
      have HQ : Hid (RdB R.cell? (.slice ax l cx) xd) := Hid.mk' (by rw [hl]; exact hq)
      have HL := Hid.mk' hl
      rw [← hl] at hc1 hdx
      have C0 := Hid.mk' hc0
      have C1 := Hid.mk' hc1
      replace hc0 := H3.cell hc0
      replace hc1 := H3.cell hc1
      have i1 : (0 : Int) ≤ (j : Int) := by omega
      have i2 : (j : Int) < (n : Int) := by omega
      have HTX := Hid.mk' hts
      have htj := HTL.out j
      clear hq hl hjE he hjs hts
      go_wp2_with fail
      refine (refnum_spec (k := 2) (n := xa) H3 hpx).mono ?_
      rintro e w4 ⟨o4, rfl, H4⟩
      obtain ⟨ao, co, rfl⟩ := H4.rowRd.form
      have hrd : RdB w4.cell? (.slice ao (nb 2 xa).length co) (nb 2 xa) := H4.rowRd
      have hlk : (nb 2 xa).length = 2 := by rw [nb_length, wid_2]
      have H6 := H4.swap
      clear H3 hc0 hc1
      go_wp2_with (with_reducible refine stop_append ?_)
      refine Hold.go (wpList_appendB (l := T j) (k := nb 2 xa) rfl _ _ rfl rfl rfl H6 hrd (by have h9 := hlk; omega) ?_)
      intro v5 w5 H5
      have H7 := H5.drop2
      clear H4 H6 hrd H5
      have hc1 := H7.cell C1.out
      by_cases h0 : l = 0
      · have t0 : ((l : Int) == 0) = true := by rw [beq_iff_eq]; omega
        have HTY : Hid (T (j + 1) = T j ++ nb 2 xa ++ [0]) := Hid.mk' (by rw [HTX.out, entC_no (by rw [← HL.out]; exact h0), List.append_assoc])
        clear h0
        go_upto_region 7 with fail
        clear hc1
        go_wp2_with (with_reducible refine stop_append ?_)
        have H8 := blkB (n := 1) (H7.alloc #[.int .u8 0] tU8) [0] rfl rfl (by simp)
        have hrd := H8.rowRd
        refine Hold.go (wpList_appendB (l := T j ++ nb 2 xa) (k := [0]) rfl _ _ rfl rfl rfl H8.swap hrd (by rw [List.length_append, hlk]; simp; omega) ?_)
        intro v9 w9 H9
        rw [← HTY.out] at H9
        have H10 := H9.drop2
        clear H7 H8 hrd H9
        go_wp2_with fail
        go_roundw
        case rel => exact ⟨j + 1, by go_num, hlt, H10⟩
        case measure => simp [intOf]; omega
      · have t0 : ((l : Int) == 0) = false := by rw [beq_eq_false_iff_ne]; omega
        have HTY : Hid (T (j + 1) = T j ++ nb 2 xa ++ [1] ++ xd) := Hid.mk' (by rw [HTX.out, entC_yes (by rw [← HL.out]; exact h0)]; simp only [List.append_assoc])
        have H0 := Hid.mk' h0
        clear h0
        go_upto_region 8 with fail
        clear hc1
        go_wp2_with (with_reducible refine stop_append ?_)
        have H8 := blkB (n := 1) (H7.alloc #[.int .u8 1] tU8) [1] rfl rfl (by simp)
        have hrd := H8.rowRd
        refine Hold.go (wpList_appendB (l := T j ++ nb 2 xa) (k := [1]) rfl _ _ rfl rfl rfl H8.swap hrd (by rw [List.length_append, hlk]; simp; omega) ?_)
        intro v9 w9 H9
        have H10 := H9.drop2
        clear H7 H8 hrd H9
        have hc1 := H10.cell C1.out
        go_upto_region 9 with fail
        go_wp2_with (with_reducible refine stop_append ?_)
        refine Hold.go (wpList_appendB (l := T j ++ nb 2 xa ++ [1]) (k := xd) rfl _ _ rfl rfl rfl H10 (Rd.world HQ.out H10) (by rw [List.length_append, List.length_append, hlk, ← HL.out]; simp; omega) ?_)
        intro v11 w11 H11
        rw [← HTY.out] at H11
        clear H10 hc1
        go_wp2_with fail
        go_roundw
        case rel => exact ⟨j + 1, by go_num, hlt, H11⟩
        case measure => simp [intOf]; omega
    · have d1 : decide ((j : Int) < (n : Int)) = false := by simp; omega
      obtain rfl : j = n := by omega
      go_wp2_with fail
      go_ret
      exact ⟨_, rfl, H3⟩
end Sh
