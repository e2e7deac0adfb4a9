/- crc.Table's contracts. -/
import Derived.Test.YtmogagcffebbaaaTab
import Derived.Test.YtmogagcffebbaaaCrcMath
set_option linter.unusedVariables false
set_option linter.unusedSimpArgs false
namespace Sh
open Go Go.RowKit Go.Proofs
attribute [local go_sem ↓] Go.wp_at_zero Go.wp_at_succ
set_option maxHeartbeats 1000000
set_option maxRecDepth 100000

/-! ### The model's words on bits -/
/-- The number of a register, of a byte: behind a name, so that the walk leaves it whole. -/
def tn (x : Reg) : Int := (x.toNat : Int)
def bn (x : BitVec 8) : Int := (x.toNat : Int)
theorem bn_bd (x : BitVec 8) : 0 ≤ bn x ∧ bn x < 256 := by have := x.isLt; unfold bn; omega
theorem tn_bd (x : Reg) : 0 ≤ tn x ∧ tn x < 4294967296 := by have := x.isLt; unfold tn; omega
theorem tn_inj {x y : Reg} (h : tn x = tn y) : x = y := by
  unfold tn at h; exact BitVec.eq_of_toNat_eq (by omega)
theorem wrap32 (x : Reg) : IntKind.u32.wrap (x.toNat : Int) = tn x := by
  have := x.isLt
  unfold tn
  simp [IntKind.wrap, IntKind.bits, IntKind.signed]; omega
theorem wrap8 (x : BitVec 8) : IntKind.u8.wrap (x.toNat : Int) = bn x := by
  have := x.isLt
  unfold bn
  simp [IntKind.wrap, IntKind.bits, IntKind.signed]; omega
theorem ofInt32 (x : Reg) : BitVec.ofInt 32 (tn x) = x := by simp [tn]
theorem ofInt8 (x : BitVec 8) : BitVec.ofInt 8 (bn x) = x := by simp [bn]
@[go_sem] theorem xor32 (x y : Reg) : bits .xor .u32 (tn x) (tn y) = tn (x ^^^ y) := by
  show IntKind.u32.wrap (((BitVec.ofInt 32 (tn x)) ^^^ (BitVec.ofInt 32 (tn y))).toNat : Int) = _
  rw [ofInt32, ofInt32, wrap32]
@[go_sem] theorem xorP (x : Reg) : bits .xor .u32 (tn x) 3988292384 = tn (x ^^^ 0xEDB88320#32) := xor32 x 0xEDB88320#32
@[go_sem] theorem xorOnes (x : Reg) : bits .xor .u32 4294967295 (tn x) = tn (x ^^^ crcOnes) := by
  rw [BitVec.xor_comm]; exact xor32 crcOnes x
@[go_sem] theorem xorOnes2 (x : Reg) : bits .xor .u32 (tn x) 4294967295 = tn (x ^^^ crcOnes) := xor32 x crcOnes
@[go_sem] theorem xor8 (x : BitVec 8) (c : UInt8) : bits .xor .u8 (bn x) (c.toNat : Int) = bn (x ^^^ c.toBitVec) := by
  show IntKind.u8.wrap (((BitVec.ofInt 8 (bn x)) ^^^ (BitVec.ofInt 8 (bn c.toBitVec))).toNat : Int) = _
  rw [ofInt8, ofInt8, wrap8]
theorem and1 (x : Reg) : bits .and .u32 (tn x) 1 = if x.getLsbD 0 then 1 else 0 := by
  show IntKind.u32.wrap (((BitVec.ofInt 32 (tn x)) &&& 1#32).toNat : Int) = _
  rw [ofInt32, wrap32]
  have : x &&& 1#32 = if x.getLsbD 0 then 1#32 else 0#32 := by
    apply BitVec.eq_of_getLsbD_eq
    intro i hi
    cases i with
    | zero => rw [BitVec.getLsbD_and]; cases x.getLsbD 0 <;> rfl
    | succ i => rw [BitVec.getLsbD_and]; cases x.getLsbD 0 <;> simp
  rw [this]; split <;> rfl
theorem shr32 (x : Reg) (n : Nat) : tn x / (2 : Int) ^ n = tn (x >>> n) := by
  unfold tn; rw [BitVec.toNat_ushiftRight, Nat.shiftRight_eq_div_pow]; simp
@[go_sem] theorem low8 (x : Reg) : IntKind.u8.wrap (tn x) = bn (x.setWidth 8) := by
  unfold tn bn; simp [IntKind.wrap, IntKind.bits, IntKind.signed]
@[go_sem] theorem div2 (x : Reg) : tn x / (2 : Int) = tn (x >>> 1) := shr32 x 1
@[go_sem] theorem div256 (x : Reg) : tn x / (256 : Int) = tn (x >>> 8) := shr32 x 8
@[go_sem] theorem div65536 (x : Reg) : tn x / (65536 : Int) = tn (x >>> 16) := shr32 x 16
@[go_sem] theorem div16777216 (x : Reg) : tn x / (16777216 : Int) = tn (x >>> 24) := shr32 x 24

def rowC (i : Nat) : Array Value := ((List.range 256).map fun j => Value.int .u32 (if j < i then tn (rowOf (BitVec.ofNat 8 j)) else 0)).toArray
theorem rowC_set {i : Nat} (h : i < 256) : (rowC i).setIfInBounds i (.int .u32 (tn (rowOf (BitVec.ofNat 8 i)))) = rowC (i + 1) := by
  apply Array.ext
  · simp [rowC]
  · intro j h1 h2
    rw [Array.getElem_setIfInBounds (by simpa [rowC] using h2)]
    simp only [rowC, List.getElem_toArray, List.getElem_map, List.getElem_range]
    by_cases e : i = j
    · subst e; simp
    · rw [if_neg e]
      by_cases h3 : j < i
      · simp [h3, Nat.lt_succ_of_lt h3]
      · have : ¬ j < i + 1 := by omega
        simp [h3, this]
abbrev tabA (p : Nat) : Asrt := blk p (rowC 256) 151
theorem new_crc {w : World} {R : Snap} {L : Asrt} (H : Holds w R L) :
    Calls Try.prog 51 #[] w fun e w' => ∃ p, e = .returned (.pointer (some ⟨p, 0, none⟩)) ∧ Holds w' R (star (tabA p) L) := by
  go_enter Try.func51, Try.ntmps51
  go_wp2_with fail
  have H1 := H.alloc (rowC 0) 151
  rw [show Try.zeroCells151 = rowC 0 by kernel_rfl]
  generalize w.heap.size = p at H1 ⊢
  generalize (World.alloc ..) = w1 at H1 ⊢
  go_loopw [6] (fun i wx => ∃ j : Nat, i = .int .i64 j ∧ j ≤ 256 ∧ Holds wx R (star (blk p (rowC j) 151) L)) (fun i _ => 256 - (intOf i).toNat)
  case atStart => exact ⟨0, rfl, Nat.zero_le _, H1⟩
  case round =>
    obtain ⟨j, rfl, hj, H3⟩ := hrel
    clear H1
    by_cases hlt : j < 256
    · have e0 : ((j : Nat) : Int) = tn ((BitVec.ofNat 8 j).setWidth 32 : Reg) := by unfold tn; simp; omega
      have E0 := Hid.mk' e0
      clear e0
      go_wp2_with fail
      go_loop [3, 11] (fun x k => ∃ (n : Nat) (y : Reg), k = .int .i64 n ∧ n ≤ 8 ∧ x = .int .u32 (tn y) ∧ crcSteps (8 - n) y = rowOf (BitVec.ofNat 8 j)) (fun _ k => 8 - (intOf k).toNat)
      case atStart => exact ⟨0, (BitVec.ofNat 8 j).setWidth 32, rfl, Nat.zero_le _, by rw [← E0.out], rfl⟩
      case round =>
        obtain ⟨n, y, rfl, hn, rfl, hy⟩ := hrel
        by_cases hn8 : n < 8
        · have hy2 : crcSteps (8 - (n + 1)) (crcStep y) = rowOf (BitVec.ofNat 8 j) := by
            rw [← hy, show 8 - n = (8 - (n + 1)) + 1 by omega]; rfl
          have HY := Hid.mk' hy2
          clear hy hy2
          have ha := and1 y
          by_cases hb : y.getLsbD 0 = true
          · have hs : crcStep y = (y >>> 1) ^^^ 0xEDB88320#32 := by unfold crcStep; rw [if_pos hb]
            rw [hb, if_pos rfl] at ha
            have HS := Hid.mk' hs
            clear hs hb
            go_wp2_with fail
            go_round
            case rel => exact ⟨n + 1, crcStep y, by go_num, hn8, by rw [HS.out]; try rw [div2, xorP], HY.out⟩
            case measure => simp [intOf]; omega
          · have hs : crcStep y = y >>> 1 := by unfold crcStep; rw [if_neg hb]
            rw [if_neg hb] at ha
            have HS := Hid.mk' hs
            clear hs hb
            go_wp2_with fail
            go_round
            case rel => exact ⟨n + 1, crcStep y, by go_num, hn8, by rw [HS.out]; try rw [div2], HY.out⟩
            case measure => simp [intOf]; omega
        · obtain rfl : n = 8 := by omega
          have hy : y = rowOf (BitVec.ofNat 8 j) := hy
          subst hy
          have cj : wr.cell? ⟨p, j, none⟩ = some (.int .u32 0) := by
            rw [H3.blkCell]; simp [rowC, hlt]
          have zj := H3.blkFrozen j
          go_wp2_with fail
          go_roundw
          case rel => exact ⟨j + 1, by go_num, hlt, by rw [← rowC_set hlt]; exact H3.set j _⟩
          case measure => simp [intOf]; omega
    · obtain rfl : j = 256 := by omega
      go_wp2_with fail
      go_ret
      exact ⟨_, rfl, H3⟩
theorem tab_cell {w : World} {p : Nat} (h : ∀ o, w.cell? ⟨p, o, none⟩ = (rowC 256)[o]?) (i : BitVec 8) : w.cell? ⟨p, (bn i).toNat, none⟩ = some (.int .u32 (tn (rowOf i))) := by
  have hi := i.isLt
  have e : (bn i).toNat = i.toNat := by unfold bn; simp
  rw [h, e]
  simp only [rowC, List.getElem?_toArray, List.getElem?_map]
  rw [List.getElem?_range (by omega)]
  simp only [Option.map_some]
  rw [if_pos (by omega)]
  simp
theorem crcRun_take (r : Reg) (l : List UInt8) (j : Nat) (h : j < l.length) : crcRun r (l.take (j + 1)) = byteStep (crcRun r (l.take j)) l[j] := by
  rw [List.take_succ_eq_append_getElem h, crcRun_append]; rfl
theorem sum_nil (w : World) (v : Value) : Calls Try.prog 143 #[.pointer none, v] w fun e w' => e = .returned (.int .u32 0) ∧ w = w' := by
  go_enter Try.func143, Try.ntmps143
  go_wp2_with fail
  go_ret
  exact ⟨rfl, rfl⟩
theorem sum_crc {w : World} {p : Nat} {vp : Value} {parts : List (Value × List UInt8)} (ht : ∀ o, w.cell? ⟨p, o, none⟩ = (rowC 256)[o]?) (hp : Rd w.cell? 1 vp parts.length (parts.map (·.1))) (hb : ∀ q ∈ parts, RdB w.cell? q.1 q.2) :
    Calls Try.prog 143 #[.pointer (some ⟨p, 0, none⟩), vp] w fun e w' => e = .returned (.int .u32 (tn (crcOf (parts.flatMap (·.2))))) ∧ w = w' := by
  obtain ⟨av, cv, rfl⟩ := hp.form
  have hpm := hp.max
  unfold maxLen at hpm
  have htc := tab_cell ht
  clear ht
  have HT := Hid.mk' htc
  clear htc
  go_enter Try.func143, Try.ntmps143
  go_wp2_with fail
  go_loop [5, 14] (fun x i => ∃ j : Nat, i = .int .i64 j ∧ j ≤ parts.length ∧ x = .int .u32 (tn (crcRun crcOnes ((parts.take j).flatMap (·.2))))) (fun _ i => parts.length - (intOf i).toNat)
  case atStart => exact ⟨0, rfl, Nat.zero_le _, rfl⟩
  case round =>
    obtain ⟨j, rfl, hj, rfl⟩ := hrel
    by_cases hlt : j < parts.length
    · obtain ⟨bv, ov, rfl, hc⟩ := hp.open (by omega)
      have cj := hc j parts[j].1 (by rw [List.getElem?_map, List.getElem?_eq_getElem hlt]; rfl)
      have hbj := hb parts[j] (List.getElem_mem hlt)
      have hs : (parts.take (j + 1)).flatMap (·.2) = (parts.take j).flatMap (·.2) ++ parts[j].2 := by
        rw [List.take_succ_eq_append_getElem hlt, List.flatMap_append, List.flatMap_singleton]
      have hs2 := congrArg (crcRun crcOnes) hs
      rw [crcRun_append] at hs2
      clear hs
      generalize crcRun crcOnes ((parts.take j).flatMap (·.2)) = r0 at hs2 ⊢
      generalize parts[j] = q at cj hbj hs2
      obtain ⟨qv, q⟩ := q
      obtain ⟨aq, cq, hq⟩ := hbj.form
      simp only at hq
      subst hq
      simp only at hbj cj hs2
      have HS := Hid.mk' hs2
      have hqm := Rd.max hbj
      unfold maxLen at hqm
      clear hs2 hc
      go_wp2_with fail
      go_loop [5, 20] (fun x i => ∃ k : Nat, i = .int .i64 k ∧ k ≤ q.length ∧ x = .int .u32 (tn (crcRun r0 (q.take k)))) (fun _ i => q.length - (intOf i).toNat)
      case atStart => exact ⟨0, rfl, Nat.zero_le _, rfl⟩
      case round =>
        obtain ⟨k, rfl, hk, rfl⟩ := hrel
        by_cases hlk : k < q.length
        · obtain ⟨bq, oq, rfl, hcq⟩ := RdB.open hbj (by omega)
          have ck := hcq k hlk
          have hst := crcRun_take r0 q k hlk
          rw [byteStep_row] at hst
          generalize crcRun r0 (q.take k) = y at hst ⊢
          generalize q[k] = c at ck hst
          have htb := HT.out (y.setWidth 8 ^^^ c.toBitVec)
          have hbd := bn_bd (y.setWidth 8 ^^^ c.toBitVec)
          have HX := Hid.mk' hst
          clear hst hcq
          go_wp2_with fail
          go_round
          case rel => exact ⟨k + 1, by go_num, hlk, by rw [HX.out]⟩
          case measure => simp [intOf]; omega
        · go_wp2_with fail
          go_round
          case rel => exact ⟨j + 1, by go_num, hlt, by rw [HS.out, List.take_of_length_le (by omega)]⟩
          case measure => simp [intOf]; omega
    · go_wp2_with fail
      go_ret
      rw [List.take_of_length_le (by omega), show IntKind.u32.max = 4294967295 from rfl, xorOnes]
      exact ⟨rfl, rfl⟩
theorem four_spec {w : World} {R : Snap} {L : Asrt} (H : Holds w R L) (x : Reg) :
    Calls Try.prog 183 #[.int .u32 (tn x)] w fun e w' => e = .returned (.agg #[.int .u8 (bn (x.setWidth 8)), .int .u8 (bn ((x >>> 8).setWidth 8)), .int .u8 (bn ((x >>> 16).setWidth 8)), .int .u8 (bn ((x >>> 24).setWidth 8))]) ∧ Holds w' R L := by
  go_enter Try.func183, Try.ntmps183
  go_wp2_with fail
  refine bodyPost_ret (results_cell_row rfl _ _ w.heap.size 206 _ (0, 0) _ rfl (heap_alloc_new _ _) Try.underlying206 rfl (by kernel_rfl)) rfl ?_
  exact ⟨rfl, H.garbage _⟩
/-- A byte of a sum. -/
def fb (x : Reg) (k : Nat) : UInt8 := UInt8.ofBitVec ((x >>> (8 * k)).setWidth 8)
theorem fourB_eq (x : Reg) : fourB x = [fb x 0, fb x 1, fb x 2, fb x 3] := rfl
theorem fb_bn (x : Reg) (k : Nat) : bn ((x >>> (8 * k)).setWidth 8) = ((fb x k).toNat : Int) := rfl
theorem fourB_take_succ (x : Reg) {j : Nat} (h : j < 4) : (fourB x).take (j + 1) = (fourB x).take j ++ [fb x j] := by
  rw [fourB_eq]
  obtain rfl | rfl | rfl | rfl : j = 0 ∨ j = 1 ∨ j = 2 ∨ j = 3 := by omega
  all_goals rfl
theorem four_index (x : Reg) {j : Nat} (h : j < 4) : (#[Value.int .u8 ((fb x 0).toNat : Int), .int .u8 ((fb x 1).toNat : Int), .int .u8 ((fb x 2).toNat : Int), .int .u8 ((fb x 3).toNat : Int)])[j]? = some (.int .u8 ((fb x j).toNat : Int)) := by
  obtain rfl | rfl | rfl | rfl : j = 0 ∨ j = 1 ∨ j = 2 ∨ j = 3 := by omega
  all_goals rfl
theorem four_spec2 {w : World} {R : Snap} {L : Asrt} (H : Holds w R L) (x : Reg) :
    Calls Try.prog 183 #[.int .u32 (tn x)] w fun e w' => e = .returned (.agg #[.int .u8 ((fb x 0).toNat : Int), .int .u8 ((fb x 1).toNat : Int), .int .u8 ((fb x 2).toNat : Int), .int .u8 ((fb x 3).toNat : Int)]) ∧ Holds w' R L :=
  (four_spec H x).mono fun e w' h => h
@[go_sem] theorem idx4_0 (w : World) (x y z u : Int) : (Instr.index 206 (.agg #[.int .u8 x, .int .u8 y, .int .u8 z, .int .u8 u]) (.int .i64 0)).run Try.prog w = .ok (.int .u8 x) w := by kernel_rfl
@[go_sem] theorem idx4_1 (w : World) (x y z u : Int) : (Instr.index 206 (.agg #[.int .u8 x, .int .u8 y, .int .u8 z, .int .u8 u]) (.int .i64 1)).run Try.prog w = .ok (.int .u8 y) w := by kernel_rfl
@[go_sem] theorem idx4_2 (w : World) (x y z u : Int) : (Instr.index 206 (.agg #[.int .u8 x, .int .u8 y, .int .u8 z, .int .u8 u]) (.int .i64 2)).run Try.prog w = .ok (.int .u8 z) w := by kernel_rfl
@[go_sem] theorem idx4_3 (w : World) (x y z u : Int) : (Instr.index 206 (.agg #[.int .u8 x, .int .u8 y, .int .u8 z, .int .u8 u]) (.int .i64 3)).run Try.prog w = .ok (.int .u8 u) w := by kernel_rfl
theorem seal_nil {w : World} {R : Snap} {L : Asrt} {v : Value} {b : List UInt8} (H : Holds w R L) (hr : RdB R.cell? v b) (hb : b.length ≤ 1000000) :
    Calls Try.prog 117 #[.pointer none, v] w fun e w' => ∃ o, e = .returned o ∧ Holds w' R (star (rowB o b) L) := by
  obtain ⟨a, c, rfl⟩ := hr.form
  go_enter Try.func117, Try.ntmps117
  go_wp2_with (with_reducible refine stop_make ?_)
  refine Hold.go (wpList_makeB0 (n := b.length + 4) rfl _ _ rfl rfl rfl H (by omega) ?_)
  intro v1 w1 H1
  go_wp2_with (with_reducible refine stop_append ?_)
  refine Hold.go (wpList_appendB rfl _ _ rfl rfl rfl H1 (hr.world H1) (by simp only [List.length_nil]; omega) ?_)
  intro v2 w2 H2
  go_wp2_with fail
  go_ret
  exact ⟨_, rfl, H2⟩
abbrev tabT : TypeId := 151
theorem one_part {w : World} {R : Snap} {L : Asrt} {t : TypeId} {v : Value} (H : Holds w R L) (h : v.cells = #[v] := by rfl) : Rd (w.alloc (.cells #[v] t)).cell? 1 (.slice (some ⟨w.heap.size, 0, none⟩) 1 1) 1 [v] :=
  ((H.alloc #[v] t).toRow 1 1 1 (Nat.le_refl _) (by simp [maxLen]) rfl).rowRd
theorem seal_crc {w : World} {R : Snap} {L : Asrt} {p : Nat} {v : Value} {b : List UInt8} (H : Holds w R L) (hT : R.blk p = some (.cells (rowC 256) tabT (0, 0))) (hr : RdB R.cell? v b) (hb : b.length ≤ 1000000) :
    Calls Try.prog 117 #[.pointer (some ⟨p, 0, none⟩), v] w fun e w' => ∃ o, e = .returned o ∧ Holds w' R (star (rowB o (sealB b)) L) := by
  obtain ⟨a, c, rfl⟩ := hr.form
  go_enter Try.func117, Try.ntmps117
  go_wp2_with (with_reducible refine stop_make ?_)
  refine Hold.go (wpList_makeB0 (n := b.length + 4) rfl _ _ rfl rfl rfl H (by omega) ?_)
  intro v1 w1 H1
  go_wp2_with (with_reducible refine stop_append ?_)
  refine Hold.go (wpList_appendB rfl _ _ rfl rfl rfl H1 (hr.world H1) (by simp only [List.length_nil]; omega) ?_)
  intro v2 w2 H2
  clear H1
  rw [List.nil_append] at H2
  go_wp2_with fail
  have H3 := H2.garbage (.cells #[.slice a b.length c] tBytes)
  refine (sum_crc (parts := [(.slice a b.length c, b)]) (H3.frz hT) (one_part H2) (by intro q hq; rw [List.mem_singleton.1 hq]; exact hr.world H3)).mono ?_
  rintro e w3 ⟨rfl, rfl⟩
  rw [show List.flatMap (fun x : Value × List UInt8 => x.2) [(Value.slice a b.length c, b)] = b from by simp]
  generalize (World.alloc ..) = w3 at H3 ⊢
  clear H2
  go_wp2_with fail
  refine (four_spec2 H3 (crcOf b)).mono ?_
  rintro e w4 ⟨rfl, H4⟩
  clear H3
  go_wp2_with fail
  have H5 : Holds w4 R (star (rowB v2 (b ++ (fourB (crcOf b)).take 0)) L) := by simpa using H4
  go_loopw [5, 22] (fun o i wx => ∃ j : Nat, i = .int .i64 j ∧ j ≤ 4 ∧ Holds wx R (star (rowB o (b ++ (fourB (crcOf b)).take j)) L)) (fun _ i _ => 4 - (intOf i).toNat)
  case atStart => exact ⟨0, rfl, Nat.zero_le _, H5⟩
  case round =>
    clear H4 H5
    obtain ⟨j, rfl, hj, H6⟩ := hrel
    by_cases hlt : j < 4
    · have hs := fourB_take_succ (crcOf b) hlt
      have HS := Hid.mk' hs
      have hln : (b ++ (fourB (crcOf b)).take j).length ≤ 1000010 := by
        rw [List.length_append, List.length_take, fourB_length]; omega
      clear hs
      rcases (by omega : j = 0 ∨ j = 1 ∨ j = 2 ∨ j = 3) with rfl | rfl | rfl | rfl
      all_goals
        go_wp2_with (with_reducible refine stop_append ?_)
        refine Hold.go (wpList_appendB rfl _ _ rfl rfl rfl (H6.garbage _) (blkRdB (H6.alloc _ _) [fb (crcOf b) _] rfl rfl (Nat.le_of_ble_eq_true rfl)) (by rw [List.length_singleton]; omega) ?_)
        intro v7 w7 H7
        go_wp2_with fail
        go_roundw
        case rel => exact ⟨_ + 1, rfl, by omega, by rw [HS.out, ← List.append_assoc]; exact H7⟩
        case measure => simp [intOf]
    · obtain rfl : j = 4 := by omega
      go_wp2_with fail
      go_ret
      exact ⟨_, rfl, H6⟩
theorem fourB_get (x : Reg) {j : Nat} (h : j < 4) : (fourB x)[j]? = some (fb x j) := by
  rw [fourB_eq]
  rcases (by omega : j = 0 ∨ j = 1 ∨ j = 2 ∨ j = 3) with rfl | rfl | rfl | rfl
  all_goals rfl
theorem goodB_iff {b : List UInt8} (h : 4 ≤ b.length) : goodB b = true ↔ ∀ i, i < 4 → b[b.length - 4 + i]? = some (fb (crcOf (b.take (b.length - 4))) i) := by
  unfold goodB sealB
  rw [decide_eq_true_eq]
  generalize crcOf (b.take (b.length - 4)) = x
  obtain ⟨n, hn⟩ : ∃ n, n = b.length - 4 := ⟨_, rfl⟩
  rw [← hn]
  constructor
  · rintro ⟨_, e⟩ i hi
    have e2 : b.drop n = fourB x := List.append_cancel_left ((List.take_append_drop n b).trans e)
    rw [← List.getElem?_drop, e2]; exact fourB_get x hi
  · intro hi
    refine ⟨h, ?_⟩
    have e2 : b.drop n = fourB x := by
      apply List.ext_getElem?
      intro i
      by_cases h4 : i < 4
      · rw [List.getElem?_drop, hi i h4, fourB_get x h4]
      · rw [List.getElem?_eq_none (by simp; omega), List.getElem?_eq_none (by rw [fourB_length]; omega)]
    rw [← e2, List.take_append_drop]
theorem good_nil (w : World) (v : Value) {b : List UInt8} (hr : RdB w.cell? v b) : Calls Try.prog 125 #[.pointer none, v] w fun e w' => e = .returned (.bool false) ∧ w = w' := by
  obtain ⟨a, c, rfl⟩ := hr.form
  go_enter Try.func125, Try.ntmps125
  go_wp2_with fail
  go_ret
  exact ⟨rfl, rfl⟩
theorem good_crc {w : World} {R : Snap} {L : Asrt} {p : Nat} {v : Value} {b : List UInt8} (H : Holds w R L) (hT : R.blk p = some (.cells (rowC 256) tabT (0, 0))) (hr : RdB R.cell? v b) (hb : b.length ≤ 1000000) :
    Calls Try.prog 125 #[.pointer (some ⟨p, 0, none⟩), v] w fun e w' => e = .returned (.bool (goodB b)) ∧ Holds w' R L := by
  obtain ⟨a, c, rfl⟩ := hr.form
  by_cases h4 : 4 ≤ b.length
  · have hB := hr.bounds
    obtain ⟨n, hn⟩ : ∃ n, n = b.length - 4 := ⟨_, rfl⟩
    have hbn : b.length = n + 4 := by omega
    have hbz : (b.length : Int) - 4 = n := by omega
    have i1 : (0 : Int) ≤ (n : Int) := by omega
    have i2 : (n : Int) ≤ (c : Int) := by omega
    have hpre := RdB.pre hr n (by omega)
    have t0 : (decide ((n : Int) < 0)) = false := by simp
    have hgi := goodB_iff h4
    rw [← hn] at hgi
    have hbt : (b.take n).length = n := by simp; omega
    have HN := Hid.mk' hbn
    have HG := Hid.mk' hgi
    clear hn hgi
    go_enter Try.func125, Try.ntmps125
    go_wp2_with fail
    have H3 := H.garbage (.cells #[.slice a n c] tBytes)
    refine (sum_crc (parts := [(.slice a n c, b.take n)]) (H3.frz hT) (one_part H) (by intro q hq; rw [List.mem_singleton.1 hq]; exact hpre.world H3)).mono ?_
    rintro e w3 ⟨rfl, rfl⟩
    rw [show List.flatMap (fun x : Value × List UInt8 => x.2) [(Value.slice a n c, b.take n)] = b.take n from by simp]
    generalize (World.alloc ..) = w3 at H3 ⊢
    generalize crcOf (b.take n) = x at HG ⊢
    go_wp2_with fail
    refine (four_spec2 H3 x).mono ?_
    rintro e w4 ⟨rfl, H4⟩
    clear H3
    go_wp2_with fail
    go_loop [24] (fun i => ∃ j : Nat, i = .int .i64 j ∧ j ≤ 4 ∧ ∀ i, i < j → b[n + i]? = some (fb x i)) (fun i => 4 - (intOf i).toNat)
    case atStart => exact ⟨0, rfl, Nat.zero_le _, fun i hi => absurd hi (Nat.not_lt_zero i)⟩
    case round =>
      obtain ⟨j, rfl, hj, hall⟩ := hrel
      have HA := Hid.mk' hall
      clear hall
      by_cases hlt : j < 4
      · obtain ⟨bb, ob, rfl, hcb⟩ := RdB.open hr (by omega)
        have hnj : n + j < b.length := by have := HN.out; omega
        have cj := H4.cell (hcb (n + j) hnj)
        have hgj : b[n + j]? = some b[n + j] := List.getElem?_eq_getElem hnj
        have HJ := Hid.mk' hgj
        clear hcb hgj
        generalize b[n + j] = y at cj HJ
        have hsucc : y = fb x j → ∀ i, i < j + 1 → b[n + i]? = some (fb x i) := fun e i hi => by
          by_cases h : i < j
          · exact HA.out i h
          · obtain rfl : i = j := by omega
            rw [HJ.out, e]
        have hfail : y ≠ fb x j → goodB b = false := fun e => by
          cases hgb : goodB b with
          | false => rfl
          | true =>
            have := (HG.out.1 hgb) j hlt
            rw [HJ.out] at this
            exact absurd (Option.some.inj this) e
        have HSU := Hid.mk' hsucc
        have HFA := Hid.mk' hfail
        clear hsucc hfail
        by_cases hyx : y = fb x j
        · subst hyx
          rcases (by omega : j = 0 ∨ j = 1 ∨ j = 2 ∨ j = 3) with rfl | rfl | rfl | rfl
          all_goals
            try simp only [Nat.add_zero] at cj
            go_wp2_with fail
            go_round
            case rel => exact ⟨_ + 1, rfl, by omega, HSU.out rfl⟩
            case measure => simp [intOf]
        · have hz : ¬ ((y.toNat : Int) = ((fb x j).toNat : Int)) := fun e => hyx (UInt8.toNat_inj.1 (by omega))
          rcases (by omega : j = 0 ∨ j = 1 ∨ j = 2 ∨ j = 3) with rfl | rfl | rfl | rfl
          all_goals
            try simp only [Nat.add_zero] at cj
            go_wp2_with fail
            go_ret
            rw [HFA.out hyx]
            exact ⟨rfl, H4⟩
      · obtain rfl : j = 4 := by omega
        go_wp2_with fail
        go_ret
        rw [HG.out.2 HA.out]
        exact ⟨rfl, H4⟩
  · have t1 : (decide ((b.length : Int) - 4 < 0)) = true := by simp; omega
    have hg : goodB b = false := by unfold goodB; simp [h4]
    go_enter Try.func125, Try.ntmps125
    go_wp2_with fail
    go_ret
    rw [hg]
    exact ⟨rfl, H⟩
end Sh
