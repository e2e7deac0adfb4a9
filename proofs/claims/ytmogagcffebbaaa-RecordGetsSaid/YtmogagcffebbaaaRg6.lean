/- MsgPut MsgSize CrcRef: joined texts, each with its own sentence below. -/
import Derived.Test.YtmogagcffebbaaaRg5
/- msg.Put. -/
set_option linter.unusedVariables false
set_option linter.unusedSimpArgs false
namespace Sh
open Go Go.RowKit Go.Proofs
attribute [local go_sem ↓] Go.wp_at_zero Go.wp_at_succ
set_option maxHeartbeats 1000000
set_option maxRecDepth 100000

theorem flatB_len {α : Type} {f : α → List UInt8} {k : Nat} (h : ∀ x, (f x).length = k) : ∀ l : List α, (l.flatMap f).length = l.length * k
  | [] => by simp
  | x :: l => by rw [List.flatMap_cons, List.length_append, h, flatB_len h l, List.length_cons, Nat.succ_mul]; omega
theorem txs_len {l : List ByteArray} (h : l.all nameOk = true) (j : Nat) : ((l.take j).flatMap txS).length ≤ 17 * j := by
  have key : ∀ (l : List ByteArray), (∀ s ∈ l, s.size ≤ 16) → (l.flatMap txS).length ≤ 17 * l.length := by
    intro l
    induction l with
    | nil => intro _; simp
    | cons x l ih =>
      intro hx
      have h1 := ih fun s hs => hx s (List.mem_cons_of_mem _ hs)
      have h2 := hx x List.mem_cons_self
      have h3 : (txS x).length ≤ 17 := by
        rw [txS, tx_small (by rw [strB_len]; omega), List.length_append, nb_length, strB_len]
        have : wid 1 = 1 := by decide
        omega
      rw [List.flatMap_cons, List.length_append, List.length_cons]
      omega
  have h1 := key (l.take j) fun s hs => nameOk_len (List.all_eq_true.1 h s (List.mem_of_mem_take hs))
  have h2 : (l.take j).length ≤ j := by rw [List.length_take]; omega
  omega
theorem wid_1 : wid 1 = 1 := by decide
theorem wid_2 : wid 2 = 2 := by decide
theorem wid_4 : wid 4 = 4 := by decide
theorem mput_bad {w : World} {R : Snap} {L : Asrt} {pt : Option Addr} (m : Ms) (H : Holds w R L) (hm : m.Rd R.cell?) (hz : m.Sz) (hok : msgOk m = false) :
    Calls Try.prog 52 #[.pointer pt, .agg m.cells.toArray] w fun e w' => e = .returned (.tuple #[.slice none 0 0, .int .i64 3]) ∧ Holds w' R L := by
  have HM := Hid.mk' hm
  have HZ := Hid.mk' hz
  have HOK := Hid.mk' hok
  obtain ⟨kind, from_, to_, ballot, name, attempt, epoch, mark, size, what, vw, vn, vd, who, names, data⟩ := m
  obtain ⟨hw, hn, hd⟩ := hm
  obtain ⟨z1, z2, z3, z4, z5⟩ := hz
  simp only at z1 z2 z3 z4 z5 hw hn hd
  obtain ⟨aw, cw, rfl⟩ := hw.form
  obtain ⟨an, cn, rfl⟩ := hn.form
  obtain ⟨ad, cd, rfl⟩ := hd.form
  obtain ⟨R1, le1, H1, hb⟩ := H.allocR (.cells #[.int .i64 kind, .int .i64 from_, .int .i64 to_, .int .i64 ballot, .string name, .int .i64 attempt, .int .i64 epoch, .int .i64 mark, .int .i64 size, .int .i64 what, .slice aw who.length cw, .slice an names.length cn, .slice ad data.length cd] tMsg (0, 0))
  clear hw hn hd hok H
  obtain ⟨l1, n1, c1⟩ := Holds.frzFacts (H1) hb
  show Calls _ _ #[.pointer pt, .agg #[.int .i64 kind, .int .i64 from_, .int .i64 to_, .int .i64 ballot, .string name, .int .i64 attempt, .int .i64 epoch, .int .i64 mark, .int .i64 size, .int .i64 what, .slice aw who.length cw, .slice an names.length cn, .slice ad data.length cd]] _ _
  go_enter Try.func52, Try.ntmps52
  go_wp2_with fail
  refine (right25_spec (⟨kind, from_, to_, ballot, name, attempt, epoch, mark, size, what, .slice aw who.length cw, .slice an names.length cn, .slice ad data.length cd, who, names, data⟩ : Ms) H1 (fun w' h => (HM.out.le le1).world h) HZ.out).mono ?_
  rintro e w2 ⟨rfl, H2⟩
  rw [HOK.out]
  go_wp2_with fail
  go_ret2
  exact ⟨rfl, H2.weaken le1⟩
theorem mput_gen {w : World} {R : Snap} {L : Asrt} {pt : Option Addr} (g : List UInt8 → List UInt8) (m : Ms) (H : Holds w R L) (hm : m.Rd R.cell?) (hz : m.Sz) (hok : msgOk m = true) (hseal : ∀ (w : World) (R' : Snap) (L' : Asrt) (v : Value) (b : List UInt8), R.le R' → Holds w R' L' → RdB R'.cell? v b → b.length ≤ 1000000 → Calls Try.prog 117 #[.pointer pt, v] w fun e w' => ∃ o, e = .returned o ∧ Holds w' R' (star (rowB o (g b)) L')) :
    Calls Try.prog 52 #[.pointer pt, .agg m.cells.toArray] w fun e w' => ∃ o, e = .returned (.tuple #[o, .int .i64 0]) ∧ Holds w' R (star (rowB o (g (bodyB m))) L) := by
  have HM := Hid.mk' hm
  have HZ := Hid.mk' hz
  have HOK := Hid.mk' hok
  have hk := hok
  simp only [msgOk, Bool.and_eq_true, decide_eq_true_eq, Bool.or_eq_true] at hk
  obtain ⟨⟨⟨⟨⟨⟨⟨⟨⟨⟨k1, k2⟩, k3⟩, k4⟩, k5⟩, k6⟩, k7⟩, k8⟩, k9⟩, k10⟩, k11⟩ := hk
  have f1 := inAll_mem k4 (x := m.from_) (by simp)
  have f2 := inAll_mem k4 (x := m.to_) (by simp)
  have f3 := inAll_mem k5 (x := m.ballot) (by simp)
  have f4 := inAll_mem k5 (x := m.attempt) (by simp)
  have f5 := inAll_mem k5 (x := m.epoch) (by simp)
  have f6 := inAll_mem k5 (x := m.mark) (by simp)
  have f7 := inAll_mem k7 (x := m.size) (by simp)
  have f8 := inAll_mem k7 (x := (m.data.length : Int)) (by simp)
  have f9 := inAll_mem k8 (x := m.what) (by simp)
  have f10 := inAll_mem k8 (x := (m.who.length : Int)) (by simp)
  obtain ⟨kind, from_, to_, ballot, name, attempt, epoch, mark, size, what, vw, vn, vd, who, names, data⟩ := m
  obtain ⟨hw, hn, hd⟩ := hm
  obtain ⟨z1, z2, z3, z4, z5⟩ := hz
  simp only at z1 z2 z3 z4 z5 hw hn hd
  obtain ⟨aw, cw, rfl⟩ := hw.form
  obtain ⟨an, cn, rfl⟩ := hn.form
  obtain ⟨ad, cd, rfl⟩ := hd.form
  simp only at k1 k2 k6 k9 k10 k11 f1 f2 f3 f4 f5 f6 f7 f8 f9 f10
  obtain ⟨R1, le1, H1, hb⟩ := H.allocR (.cells #[.int .i64 kind, .int .i64 from_, .int .i64 to_, .int .i64 ballot, .string name, .int .i64 attempt, .int .i64 epoch, .int .i64 mark, .int .i64 size, .int .i64 what, .slice aw who.length cw, .slice an names.length cn, .slice ad data.length cd] tMsg (0, 0))
  have HW := Hid.mk' (Rd.le hw le1)
  have HN := Hid.mk' (Rd.le hn le1)
  have HD := Hid.mk' (Rd.le hd le1)
  have HS := Hid.mk' hseal
  have K6 := Hid.mk' k6
  have K10 := Hid.mk' k10
  clear hw hn hd hok H k3 k4 k5 k7 k8 hseal k6 k10
  obtain ⟨l1, n1, c1⟩ := Holds.frzFacts (H1) hb
  show Calls _ _ #[.pointer pt, .agg #[.int .i64 kind, .int .i64 from_, .int .i64 to_, .int .i64 ballot, .string name, .int .i64 attempt, .int .i64 epoch, .int .i64 mark, .int .i64 size, .int .i64 what, .slice aw who.length cw, .slice an names.length cn, .slice ad data.length cd]] _ _
  go_enter Try.func52, Try.ntmps52
  go_wp2_with fail
  refine (right25_spec (⟨kind, from_, to_, ballot, name, attempt, epoch, mark, size, what, .slice aw who.length cw, .slice an names.length cn, .slice ad data.length cd, who, names, data⟩ : Ms) H1 (fun w' h => (HM.out.le le1).world h) HZ.out).mono ?_
  rintro e w2 ⟨rfl, H2⟩
  rw [HOK.out]
  clear H1 l1 n1 c1
  have H3 : Holds _ R1 (star (wr _ []) L) := wr_shut (((H2.alloc #[.slice none 0 0] 153).nilRow tU8 1).swap)
  go_wp2_with fail
  generalize (World.alloc ..) = w3 at H3 ⊢
  generalize w2.heap.size = pw at H3 ⊢
  clear H2
  refine (num_spec H3 (by simp) (by omega)).mono ?_
  rintro e w4 ⟨rfl, H4⟩
  rw [List.nil_append] at H4
  clear H3
  obtain ⟨l4, n4, c4⟩ := Holds.frzFacts (H4) hb
  go_wp2_with fail
  refine (num_spec H4 (by simp [nb_length, wid_1, wid_2, wid_4]) (by omega)).mono ?_
  rintro e w5 ⟨rfl, H5⟩
  clear H4 l4 n4 c4
  obtain ⟨l5, n5, c5⟩ := Holds.frzFacts (H5) hb
  go_wp2_with fail
  refine (num_spec H5 (by simp [nb_length, wid_1, wid_2, wid_4]) (by omega)).mono ?_
  rintro e w6 ⟨rfl, H6⟩
  clear H5 l5 n5 c5
  obtain ⟨l6, n6, c6⟩ := Holds.frzFacts (H6) hb
  go_wp2_with fail
  refine (num_spec H6 (by simp [nb_length, wid_1, wid_2, wid_4]) (by omega)).mono ?_
  rintro e w7 ⟨rfl, H7⟩
  clear H6 l6 n6 c6
  obtain ⟨l7, n7, c7⟩ := Holds.frzFacts (H7) hb
  go_wp2_with fail
  refine (num_spec H7 (by simp [nb_length, wid_1, wid_2, wid_4]) (by omega)).mono ?_
  rintro e w8 ⟨rfl, H8⟩
  clear H7 l7 n7 c7
  obtain ⟨l8, n8, c8⟩ := Holds.frzFacts (H8) hb
  obtain ⟨as8, cs8, w9, hconv, R9, le9, H9, hs9⟩ := convBytes H8 z1
  clear l8 n8 c8
  obtain ⟨l8, n8, c8⟩ := Holds.frzFacts (H8) hb
  go_wp2_with fail
  have hlen9 : (strB name).length ≤ 1000000 := by
    rw [strB_len]
    rcases k11 with k | k
    · omega
    · have := nameOk_len k; omega
  refine (text_spec H9 (by simp [nb_length, wid_1, wid_2, wid_4]) hlen9 hs9).mono ?_
  rintro e w10 ⟨rfl, H10⟩
  have hb10 := le9.blk _ _ hb
  clear H8 H9 hconv l8 n8 c8
  have e10 : nb 1 77 ++ nb 1 kind ++ nb 2 from_ ++ nb 2 to_ ++ nb 4 ballot ++ nb 1 (min (strB name).length 255 : Nat) ++ (strB name).take 255 = nb 1 77 ++ (nb 1 kind ++ (nb 2 from_ ++ (nb 2 to_ ++ (nb 4 ballot ++ txS name)))) := by
    simp only [List.append_assoc, txS, tx]
  rw [e10] at H10
  obtain ⟨T, hT⟩ : ∃ T, T = nb 1 77 ++ (nb 1 kind ++ (nb 2 from_ ++ (nb 2 to_ ++ (nb 4 ballot ++ txS name)))) := ⟨_, rfl⟩
  have hTl : T.length ≤ 2000 := by
    rw [hT]; simp [nb_length, wid_1, wid_2, wid_4, txS, tx]; omega
  rw [← hT] at H10
  have HT := Hid.mk' hT
  clear hT e10
  obtain ⟨l10, n10, c10⟩ := Holds.frzFacts (H10) hb10
  have H11 := H10.alloc #[.int .i64 attempt, .int .i64 epoch, .int .i64 mark] tInt
  obtain ⟨R11, le11, H12, hb11⟩ := H11.freezeBlk
  have hb12 := le11.blk _ _ hb10
  clear H11
  have R11w : RdI R11.cell? (.slice (some ⟨w10.heap.size, 0, none⟩) 3 3) [attempt, epoch, mark] := by
    refine ⟨_, _, rfl, Nat.le_refl _, by decide, rfl, (fun e => by cases e), ?_⟩
    intro b' o' s e j u hu
    simp only [Option.some.injEq, Addr.mk.injEq] at e
    obtain ⟨rfl, rfl, rfl⟩ := e
    refine ⟨rfl, ?_⟩
    unfold Snap.cell?
    simp only [hb11, Nat.zero_add]
    simpa using hu
  have HR3 := Hid.mk' R11w
  have hle3 : ∀ x ∈ [attempt, epoch, mark], x ≤ 4294967295 := by
    intro x hx
    simp only [List.mem_cons, List.not_mem_nil, or_false] at hx
    rcases hx with rfl | rfl | rfl <;> omega
  have HL3 := Hid.mk' hle3
  clear R11w hle3
  have hgr : (World.alloc w10 (.cells #[.int .i64 attempt, .int .i64 epoch, .int .i64 mark] tInt)) = World.alloc w10 (.cells #[.int .i64 attempt, .int .i64 epoch, .int .i64 mark] tInt) := rfl
  go_wp2_with fail
  go_loopw [48] (fun i wx => ∃ j : Nat, i = .int .i64 j ∧ j ≤ 3 ∧ Holds wx R11 (star (wr pw (T ++ ([attempt, epoch, mark].take j).flatMap (nb 4))) L)) (fun i _ => 3 - (intOf i).toNat)
  case atStart => exact ⟨0, rfl, by omega, by simpa using H12⟩
  case round =>
    clear H12 l10 n10 c10 H10 hgr
    obtain ⟨j, rfl, hj, H13⟩ := hrel
    by_cases hlt : j < 3
    · have hjl : j < [attempt, epoch, mark].length := hlt
      obtain ⟨b1, o1, ha, hc⟩ := rdI_at (Rd.world HR3.out H13) hjl
      simp only [Option.some.injEq, Addr.mk.injEq] at ha
      obtain ⟨rfl, rfl, _⟩ := ha
      have hx := HL3.out _ (List.getElem_mem hjl)
      have i1 : (j : Int) < 3 := by omega
      have i0 : (0 : Int) ≤ (j : Int) := by omega
      have hs : Hid (([attempt, epoch, mark].take (j + 1)).flatMap (nb 4) = ([attempt, epoch, mark].take j).flatMap (nb 4) ++ nb 4 ([attempt, epoch, mark][j])) := Hid.mk' (by
        rw [List.take_succ_eq_append_getElem hjl, List.flatMap_append]; simp)
      have hl9 : (T ++ ([attempt, epoch, mark].take j).flatMap (nb 4)).length ≤ 1000000 := by
        rw [List.length_append, flatB_len (k := 4) (fun x => by rw [nb_length, wid_4]), List.length_take]; omega
      generalize [attempt, epoch, mark][j] = x at hc hx hs
      rw [Nat.zero_add] at hc
      go_wp2_with fail
      refine (num_spec (n := x) H13 hl9 (by omega)).mono ?_
      rintro e w14 ⟨rfl, H14⟩
      go_wp2_with fail
      go_roundw
      case rel => exact ⟨j + 1, by go_num, hlt, by rw [hs.out, ← List.append_assoc]; exact H14⟩
      case measure => simp [intOf]; omega
    · obtain rfl : j = 3 := by omega
      have e14 : T ++ ([attempt, epoch, mark].take 3).flatMap (nb 4) = T ++ (nb 4 attempt ++ (nb 4 epoch ++ nb 4 mark)) := by simp
      rw [e14] at H13
      clear e14
      obtain ⟨l13, n13, c13⟩ := Holds.frzFacts (H13) hb12
      go_wp2_with fail
      refine (num_spec (n := size) H13 (by simp [nb_length, wid_4]; omega) (by omega)).mono ?_
      rintro e w15 ⟨rfl, H15⟩
      clear H13 l13 n13 c13
      obtain ⟨l13, n13, c13⟩ := Holds.frzFacts (H15) hb12
      go_wp2_with fail
      refine (num_spec (n := what) H15 (by simp [nb_length, wid_4, wid_2]; omega) (by omega)).mono ?_
      rintro e w16 ⟨rfl, H16⟩
      clear H15 l13 n13 c13
      obtain ⟨l13, n13, c13⟩ := Holds.frzFacts (H16) hb12
      go_wp2_with fail
      refine (num_spec (n := (who.length : Int)) H16 (by simp [nb_length, wid_4, wid_2, wid_1]; omega) (by omega)).mono ?_
      rintro e w17 ⟨rfl, H17⟩
      clear H16 l13 n13 c13
      have e17 : T ++ (nb 4 attempt ++ (nb 4 epoch ++ nb 4 mark)) ++ nb 2 size ++ nb 1 what ++ nb 1 (who.length : Int) = T ++ (nb 4 attempt ++ (nb 4 epoch ++ (nb 4 mark ++ (nb 2 size ++ (nb 1 what ++ nb 1 (who.length : Int)))))) := by simp only [List.append_assoc]
      rw [e17] at H17
      obtain ⟨T2, hT2⟩ : ∃ T2, T2 = T ++ (nb 4 attempt ++ (nb 4 epoch ++ (nb 4 mark ++ (nb 2 size ++ (nb 1 what ++ nb 1 (who.length : Int)))))) := ⟨_, rfl⟩
      have hT2l : T2.length ≤ 4000 := by rw [hT2]; simp [nb_length, wid_4, wid_2, wid_1]; omega
      rw [← hT2] at H17
      have HT2 := Hid.mk' hT2
      clear hT2 e17
      obtain ⟨l13, n13, c13⟩ := Holds.frzFacts (H17) hb12
      obtain ⟨nw, hnw⟩ : ∃ nw, nw = who.length := ⟨_, rfl⟩
      have HNW := Hid.mk' hnw
      have hnw9 : nw ≤ 255 := by omega
      rw [← hnw] at c13
      have HWR : Hid (RdI R11.cell? (.slice aw nw cw) who) := Hid.mk' (by rw [hnw]; exact Rd.le HW.out (le9.trans le11))
      have HB12 : Hid (R11.blk w.heap.size = some (.cells #[.int .i64 kind, .int .i64 from_, .int .i64 to_, .int .i64 ballot, .string name, .int .i64 attempt, .int .i64 epoch, .int .i64 mark, .int .i64 size, .int .i64 what, .slice aw who.length cw, .slice an names.length cn, .slice ad data.length cd] tMsg (0, 0))) := Hid.mk' hb12
      have hbw : R11.blk w.heap.size = some (.cells #[.int .i64 kind, .int .i64 from_, .int .i64 to_, .int .i64 ballot, .string name, .int .i64 attempt, .int .i64 epoch, .int .i64 mark, .int .i64 size, .int .i64 what, .slice aw nw cw, .slice an names.length cn, .slice ad data.length cd] tMsg (0, 0)) := by rw [hnw]; exact hb12
      clear hnw hb12
      go_wp2_with fail
      go_loopw [72] (fun i wx => ∃ j : Nat, i = .int .i64 j ∧ j ≤ nw ∧ Holds wx R11 (star (Sh.wr pw (T2 ++ (who.take j).flatMap (nb 4))) L)) (fun i _ => nw - (intOf i).toNat)
      case atStart => exact ⟨0, rfl, Nat.zero_le _, by simpa using H17⟩
      case round =>
        clear H17 l13 n13 c13
        obtain ⟨j, rfl, hj, H18⟩ := hrel
        by_cases hlt2 : j < nw
        · have hjl : j < who.length := by rw [← HNW.out]; exact hlt2
          obtain ⟨b1, o1, ha, hc⟩ := rdI_at (Rd.world HWR.out H18) hjl
          subst ha
          have hx := (inAll_mem K6.out (List.getElem_mem hjl)).2
          have hs : Hid ((who.take (j + 1)).flatMap (nb 4) = (who.take j).flatMap (nb 4) ++ nb 4 (who[j])) := Hid.mk' (by
            rw [List.take_succ_eq_append_getElem hjl, List.flatMap_append]; simp)
          have hl9 : (T2 ++ (who.take j).flatMap (nb 4)).length ≤ 1000000 := by
            rw [List.length_append, flatB_len (k := 4) (fun x => by rw [nb_length, wid_4]), List.length_take]; omega
          generalize who[j] = x at hc hx hs
          go_wp2_with fail
          refine (num_spec (n := x) H18 hl9 (by omega)).mono ?_
          rintro e w19 ⟨rfl, H19⟩
          go_wp2_with fail
          go_roundw
          case rel => exact ⟨j + 1, by go_num, hlt2, by rw [hs.out, ← List.append_assoc]; exact H19⟩
          case measure => simp [intOf]; omega
        · rw [List.take_of_length_le (by have := HNW.out; omega)] at H18
          obtain ⟨T3, hT3⟩ : ∃ T3, T3 = T2 ++ who.flatMap (nb 4) := ⟨_, rfl⟩
          have hT3l : T3.length ≤ 6000 := by
            rw [hT3, List.length_append, flatB_len (k := 4) (fun x => by rw [nb_length, wid_4])]
            have := HNW.out
            omega
          rw [← hT3] at H18
          have HT3 := Hid.mk' hT3
          clear hT3
          obtain ⟨l13, n13, c13⟩ := Holds.frzFacts (H18) hbw
          go_wp2_with fail
          refine (num_spec (n := (names.length : Int)) H18 (by omega) (by omega)).mono ?_
          rintro e w20 ⟨rfl, H20⟩
          clear H18 l13 n13 c13
          obtain ⟨l13, n13, c13⟩ := Holds.frzFacts (H20) hbw
          obtain ⟨T4, hT4⟩ : ∃ T4, T4 = T3 ++ nb 1 (names.length : Int) := ⟨_, rfl⟩
          have hT4l : T4.length ≤ 6001 := by rw [hT4]; simp [nb_length, wid_1]; omega
          rw [← hT4] at H20
          have HT4 := Hid.mk' hT4
          obtain ⟨nn, hnn⟩ : ∃ nn, nn = names.length := ⟨_, rfl⟩
          have HNN := Hid.mk' hnn
          have hnn9 : nn ≤ 8 := by omega
          have hbn : R11.blk w.heap.size = some (.cells #[.int .i64 kind, .int .i64 from_, .int .i64 to_, .int .i64 ballot, .string name, .int .i64 attempt, .int .i64 epoch, .int .i64 mark, .int .i64 size, .int .i64 what, .slice aw nw cw, .slice an nn cn, .slice ad data.length cd] tMsg (0, 0)) := by rw [hnn]; exact hbw
          rw [← hnn] at c13
          have HNR : Hid (RdS R11.cell? (.slice an nn cn) names) := Hid.mk' (by rw [hnn]; exact Rd.le HN.out (le9.trans le11))
          clear hnn hT4 hbw
          go_wp2_with fail
          go_loopw [88] (fun i wx => ∃ (j : Nat) (R12 : Snap), i = .int .i64 j ∧ j ≤ nn ∧ R11.le R12 ∧ Holds wx R12 (star (Sh.wr pw (T4 ++ (names.take j).flatMap txS)) L)) (fun i _ => nn - (intOf i).toNat)
          case atStart => exact ⟨0, R11, rfl, Nat.zero_le _, Snap.le.refl _, by simpa using H20⟩
          case round =>
            clear H20 l13 n13 c13
            obtain ⟨j, R12, rfl, hj, le12, H21⟩ := hrel
            by_cases hlt3 : j < nn
            · have hjl : j < names.length := by rw [← HNN.out]; exact hlt3
              obtain ⟨b1, o1, ha, hc⟩ := rdS_at (Rd.world (Rd.le HNR.out le12) H21) hjl
              subst ha
              have hx16 := nameOk_len (List.all_eq_true.1 K10.out _ (List.getElem_mem hjl))
              have hxm := z2 _ (List.getElem_mem hjl)
              have hs : Hid ((names.take (j + 1)).flatMap txS = (names.take j).flatMap txS ++ txS (names[j])) := Hid.mk' (by
                rw [List.take_succ_eq_append_getElem hjl, List.flatMap_append]; simp)
              have hl9 : (T4 ++ (names.take j).flatMap txS).length ≤ 900000 := by
                rw [List.length_append]
                have := txs_len K10.out j
                omega
              generalize names[j] = x at hc hx16 hxm hs
              obtain ⟨a9, c9, w22, hconv, R22, le22, H22, hs22⟩ := convBytes H21 hxm
              go_wp2_with fail
              refine (text_spec H22 hl9 (by rw [strB_len]; omega) hs22).mono ?_
              rintro e w23 ⟨rfl, H23⟩
              clear hconv
              go_wp2_with fail
              go_roundw
              case rel =>
                refine ⟨j + 1, R22, by go_num, hlt3, le12.trans le22, ?_⟩
                rw [hs.out, ← List.append_assoc, txS, tx, ← List.append_assoc]; exact H23
              case measure => simp [intOf]; omega
            · rw [List.take_of_length_le (by have := HNN.out; omega)] at H21
              have hb13 := le12.blk _ _ hbn
              obtain ⟨T5, hT5⟩ : ∃ T5, T5 = T4 ++ names.flatMap txS := ⟨_, rfl⟩
              have hT5l : T5.length ≤ 10000 := by
                rw [hT5, List.length_append]
                have := txs_len K10.out names.length
                rw [List.take_length] at this
                have := HNN.out
                omega
              rw [← hT5] at H21
              have HT5 := Hid.mk' hT5
              clear hT5
              obtain ⟨l13, n13, c13⟩ := Holds.frzFacts (H21) hb13
              go_wp2_with fail
              refine (text_spec H21 (by omega) z5 (Rd.le HD.out ((le9.trans le11).trans le12))).mono ?_
              rintro e w24 ⟨rfl, H24⟩
              clear H21 l13 n13 c13
              have e24 : T5 ++ nb 1 (min data.length 255 : Nat) ++ data.take 255 = bodyB (⟨kind, from_, to_, ballot, name, attempt, epoch, mark, size, what, .slice aw who.length cw, .slice an names.length cn, .slice ad data.length cd, who, names, data⟩ : Ms) := by
                rw [HT5.out, HT4.out, HT3.out, HT2.out, HT.out]
                simp only [bodyB, bodyS, tx, List.append_assoc, List.append_nil]
              rw [e24] at H24
              have hbl : (bodyB (⟨kind, from_, to_, ballot, name, attempt, epoch, mark, size, what, .slice aw who.length cw, .slice an names.length cn, .slice ad data.length cd, who, names, data⟩ : Ms)).length ≤ 1000000 := by
                rw [← e24]; simp [nb_length, wid_1]; omega
              clear e24
              go_wp2_with fail
              refine (bytes_spec H24 hbl).mono ?_
              rintro e w25 ⟨v25, rfl, H25⟩
              obtain ⟨R26, le26, H26, hr26⟩ := H25.freezeRow
              have leA := (((le1.trans le9).trans le11).trans le12).trans le26
              go_wp2_with fail
              refine (HS.out _ _ _ _ _ leA H26 hr26 hbl).mono ?_
              rintro e w27 ⟨o, rfl, H27⟩
              go_wp2_with fail
              go_ret2
              exact ⟨o, rfl, (H27.drop2).weaken leA⟩
theorem mput_ok {w : World} {R : Snap} {L : Asrt} {p : Nat} (m : Ms) (H : Holds w R L) (hT : R.blk p = some (.cells (rowC 256) tabT (0, 0))) (hm : m.Rd R.cell?) (hz : m.Sz) (hok : msgOk m = true) :
    Calls Try.prog 52 #[.pointer (some ⟨p, 0, none⟩), .agg m.cells.toArray] w fun e w' => ∃ o, e = .returned (.tuple #[o, .int .i64 0]) ∧ Holds w' R (star (rowB o (putM m)) L) :=
  mput_gen sealB m H hm hz hok fun w R' L' v b le H hr hb => seal_crc H (le.blk _ _ hT) hr hb
theorem mput_nil {w : World} {R : Snap} {L : Asrt} (m : Ms) (H : Holds w R L) (hm : m.Rd R.cell?) (hz : m.Sz) (hok : msgOk m = true) :
    Calls Try.prog 52 #[.pointer none, .agg m.cells.toArray] w fun e w' => ∃ o, e = .returned (.tuple #[o, .int .i64 0]) ∧ Holds w' R (star (rowB o (bodyB m)) L) :=
  mput_gen id m H hm hz hok fun w R' L' v b le H hr hb => seal_nil H hr hb
end Sh
/- msg.Size. -/
set_option linter.unusedVariables false
set_option linter.unusedSimpArgs false
namespace Sh
open Go Go.RowKit Go.Proofs
attribute [local go_sem ↓] Go.wp_at_zero Go.wp_at_succ
set_option maxHeartbeats 1000000
set_option maxRecDepth 100000

theorem tx_len (l : List UInt8) : (tx l).length ≤ 256 := by
  rw [tx, List.length_append, nb_length, wid_1, List.length_take]; omega
theorem body_len {m : Ms} (h : msgOk m = true) : (bodyB m).length ≤ 100000 := by
  simp only [msgOk, Bool.and_eq_true, decide_eq_true_eq, Bool.or_eq_true] at h
  obtain ⟨⟨⟨⟨⟨⟨⟨⟨⟨⟨k1, k2⟩, k3⟩, k4⟩, k5⟩, k6⟩, k7⟩, k8⟩, k9⟩, k10⟩, k11⟩ := h
  have f10 := inAll_mem k8 (x := (m.who.length : Int)) (by simp)
  have a1 : (m.who.flatMap (nb 4)).length = m.who.length * 4 := flatB_len (k := 4) (fun x => by rw [nb_length, wid_4]) _
  have a2 := txs_len k10 m.names.length
  rw [List.take_length] at a2
  have a3 := tx_len m.data
  have a4 : (txS m.name).length ≤ 256 := tx_len _
  unfold bodyB bodyS
  simp only [List.length_append, nb_length, wid_1, wid_2, wid_4, List.length_nil, a1]
  omega
theorem msize_spec {w : World} {R : Snap} {L : Asrt} (m : Ms) (H : Holds w R L) (hm : m.Rd R.cell?) (hz : m.Sz) :
    Calls Try.prog 55 #[.agg m.cells.toArray] w fun e w' => e = .returned (.int .i64 ((if msgOk m = true then (putM m).length else 0 : Nat) : Int)) ∧ Holds w' R L := by
  have HM := Hid.mk' hm
  have HZ := Hid.mk' hz
  have hlen : msgOk m = true → (bodyB m).length ≤ 100000 := fun h => body_len h
  have HL := Hid.mk' hlen
  obtain ⟨ok, hok⟩ : ∃ ok, ok = msgOk m := ⟨_, rfl⟩
  have HOK := Hid.mk' hok
  rw [← hok]
  obtain ⟨sz, hsz⟩ : ∃ sz, sz = (if ok = true then (putM m).length else 0) := ⟨_, rfl⟩
  rw [← hsz]
  have HSZ := Hid.mk' hsz
  have HSP := Hid.mk' (show ok = true → sz = (bodyB m).length + 4 from fun h => by rw [hsz, if_pos h, putM, sealB_len])
  obtain ⟨kind, from_, to_, ballot, name, attempt, epoch, mark, size, what, vw, vn, vd, who, names, data⟩ := m
  obtain ⟨hw, hn, hd⟩ := hm
  obtain ⟨z1, z2, z3, z4, z5⟩ := hz
  simp only at z1 z2 z3 z4 z5 hw hn hd
  obtain ⟨aw, cw, rfl⟩ := hw.form
  obtain ⟨an, cn, rfl⟩ := hn.form
  obtain ⟨ad, cd, rfl⟩ := hd.form
  obtain ⟨R1, le1, H1, hb⟩ := H.allocR (.cells #[.int .i64 kind, .int .i64 from_, .int .i64 to_, .int .i64 ballot, .string name, .int .i64 attempt, .int .i64 epoch, .int .i64 mark, .int .i64 size, .int .i64 what, .slice aw who.length cw, .slice an names.length cn, .slice ad data.length cd] tMsg (0, 0))
  clear hw hn hd hok hsz hlen H
  obtain ⟨l1, n1, c1⟩ := Holds.frzFacts (H1) hb
  show Calls _ _ #[.agg #[.int .i64 kind, .int .i64 from_, .int .i64 to_, .int .i64 ballot, .string name, .int .i64 attempt, .int .i64 epoch, .int .i64 mark, .int .i64 size, .int .i64 what, .slice aw who.length cw, .slice an names.length cn, .slice ad data.length cd]] _ _
  go_enter Try.func55, Try.ntmps55
  go_wp2_with fail
  refine (right25_spec (⟨kind, from_, to_, ballot, name, attempt, epoch, mark, size, what, .slice aw who.length cw, .slice an names.length cn, .slice ad data.length cd, who, names, data⟩ : Ms) H1 (fun w' h => (HM.out.le le1).world h) HZ.out).mono ?_
  rintro e w2 ⟨rfl, H2⟩
  rw [← HOK.out]
  clear H1 l1 n1 c1
  obtain ⟨l2, n2, c2⟩ := Holds.frzFacts (H2) hb
  cases ok
  · go_wp2_with fail
    go_ret
    exact ⟨by rw [HSZ.out]; rfl, H2.weaken le1⟩
  · go_wp2_with fail
    refine (mput_nil (⟨kind, from_, to_, ballot, name, attempt, epoch, mark, size, what, .slice aw who.length cw, .slice an names.length cn, .slice ad data.length cd, who, names, data⟩ : Ms) H2 (HM.out.le le1) HZ.out HOK.out.symm).mono ?_
    rintro e w3 ⟨o, rfl, H3⟩
    obtain ⟨a, c, rfl⟩ := H3.rowRd.form
    have hl := HL.out HOK.out.symm
    have hsz : sz = (bodyB (⟨kind, from_, to_, ballot, name, attempt, epoch, mark, size, what, .slice aw who.length cw, .slice an names.length cn, .slice ad data.length cd, who, names, data⟩ : Ms)).length + 4 := HSP.out (by first | trivial | rfl)
    generalize (bodyB (⟨kind, from_, to_, ballot, name, attempt, epoch, mark, size, what, .slice aw who.length cw, .slice an names.length cn, .slice ad data.length cd, who, names, data⟩ : Ms)).length = n at *
    have hw : IntKind.i64.wrap ((n : Int) + 4) = (n : Int) + 4 := IntWalk.i64_in _ (by omega)
    go_wp2_with fail
    go_ret
    exact ⟨by rw [hsz]; push_cast; rfl, (H3.drop).weaken le1⟩
end Sh
/- sherdref05's contracts. -/
set_option linter.unusedVariables false
set_option linter.unusedSimpArgs false
namespace Sh
open Go Go.RowKit Go.Proofs
attribute [local go_sem ↓] Go.wp_at_zero Go.wp_at_succ
set_option maxHeartbeats 1000000
set_option maxRecDepth 100000

def bitsOf (c : UInt8) (i : Nat) : Bool := c.toBitVec.getLsbD i
theorem byte_bits (r : Reg) (c : UInt8) : crcReg (bitsOf c) r 8 = byteStep r c := by
  rw [show (8 : Nat) = 0 + 8 from rfl, crcReg_word (by omega)]
  show crcSteps 8 (r ^^^ _) = crcSteps 8 (r ^^^ _)
  congr 2
  apply BitVec.eq_of_getLsbD_eq
  intro i hi
  rw [crcWord_bit hi, BitVec.getLsbD_setWidth, decide_eq_true hi, Bool.true_and, Nat.zero_add]
  by_cases h : i < 8
  · rw [decide_eq_true h]; rfl
  · rw [decide_eq_false h, BitVec.getLsbD_of_ge _ _ (by omega)]; rfl
theorem bit_step (y : Reg) (b : Bool) : crcStep (y ^^^ (BitVec.ofBool b).setWidth 32) = if y.getLsbD 0 = b then y >>> 1 else (y >>> 1) ^^^ 0xEDB88320#32 := by
  have h1 : (y ^^^ (BitVec.ofBool b).setWidth 32) >>> 1 = y >>> 1 := by
    rw [BitVec.ushiftRight_xor_distrib]
    have : ((BitVec.ofBool b).setWidth 32) >>> 1 = 0#32 := by cases b <;> rfl
    rw [this, BitVec.xor_zero]
  have h2 : (y ^^^ (BitVec.ofBool b).setWidth 32).getLsbD 0 = (y.getLsbD 0 ^^ b) := by
    rw [BitVec.getLsbD_xor]; congr 1; cases b <;> rfl
  unfold crcStep
  rw [h1, h2]
  cases y.getLsbD 0 <;> cases b <;> rfl
@[go_sem] theorem up32 (c : UInt8) : IntKind.u32.wrap (c.toNat : Int) = tn (c.toBitVec.setWidth 32) := by
  have h := c.toBitVec.isLt
  have e : tn (c.toBitVec.setWidth 32) = (c.toNat : Int) := by
    unfold tn; rw [BitVec.toNat_setWidth, Nat.mod_eq_of_lt (Nat.lt_trans h (by decide))]; rfl
  rw [e]
  have h2 := u8_lt c
  simp [IntKind.wrap, IntKind.bits, IntKind.signed]; omega
@[go_sem] theorem div4 (x : Reg) : tn x / (4 : Int) = tn (x >>> 2) := shr32 x 2
@[go_sem] theorem div8 (x : Reg) : tn x / (8 : Int) = tn (x >>> 3) := shr32 x 3
@[go_sem] theorem div16 (x : Reg) : tn x / (16 : Int) = tn (x >>> 4) := shr32 x 4
@[go_sem] theorem div32 (x : Reg) : tn x / (32 : Int) = tn (x >>> 5) := shr32 x 5
@[go_sem] theorem div64 (x : Reg) : tn x / (64 : Int) = tn (x >>> 6) := shr32 x 6
@[go_sem] theorem div128 (x : Reg) : tn x / (128 : Int) = tn (x >>> 7) := shr32 x 7
theorem bit_and (c : UInt8) (k : Nat) (hk : k < 8) : bits .and .u32 (tn (c.toBitVec.setWidth 32 >>> k)) 1 = if bitsOf c k then 1 else 0 := by
  rw [and1, BitVec.getLsbD_ushiftRight, BitVec.getLsbD_setWidth, decide_eq_true (show k + 0 < 32 by omega), Bool.true_and]; rfl
theorem csum_ref {w : World} {v : Value} {b : List UInt8} (hr : RdB w.cell? v b) :
    Calls Try.prog 135 #[v] w fun e w' => e = .returned (.int .u32 (tn (crcOf b))) ∧ w = w' := by
  obtain ⟨a, c, rfl⟩ := hr.form
  have hqm := Rd.max hr
  unfold maxLen at hqm
  go_enter Try.func135, Try.ntmps135
  go_wp2_with fail
  go_loop [3, 4] (fun x i => ∃ j : Nat, i = .int .i64 j ∧ j ≤ b.length ∧ x = .int .u32 (tn (crcRun crcOnes (b.take j)))) (fun _ i => b.length - (intOf i).toNat)
  case atStart => exact ⟨0, rfl, Nat.zero_le _, rfl⟩
  case round =>
    obtain ⟨j, rfl, hj, rfl⟩ := hrel
    by_cases hlt : j < b.length
    · obtain ⟨bb, ob, rfl, hc⟩ := RdB.open hr (by omega)
      have cj := hc j hlt
      have hst := crcRun_take crcOnes b j hlt
      generalize crcRun crcOnes (b.take j) = r0 at hst ⊢
      generalize b[j] = q at cj hst
      have HS := Hid.mk' hst
      clear hst hc
      go_wp2_with fail
      go_loop [3, 5] (fun x k => ∃ n : Nat, k = .int .i64 n ∧ n ≤ 8 ∧ x = .int .u32 (tn (crcReg (bitsOf q) r0 n))) (fun _ k => 8 - (intOf k).toNat)
      case atStart => exact ⟨0, rfl, Nat.zero_le _, rfl⟩
      case round =>
        obtain ⟨n, rfl, hn, rfl⟩ := hrel
        by_cases hn8 : n < 8
        · have hst : crcReg (bitsOf q) r0 (n + 1) = _ := bit_step (crcReg (bitsOf q) r0 n) (bitsOf q n)
          generalize crcReg (bitsOf q) r0 n = y at hst ⊢
          have HST := Hid.mk' hst
          clear hst
          rcases (by omega : n = 0 ∨ n = 1 ∨ n = 2 ∨ n = 3 ∨ n = 4 ∨ n = 5 ∨ n = 6 ∨ n = 7) with rfl | rfl | rfl | rfl | rfl | rfl | rfl | rfl
          all_goals
            cases h1 : y.getLsbD 0 <;> cases h2 : bitsOf q _
            all_goals
              have ha := and1 y
              have hb := bit_and q _ hn8
              rw [h1] at ha
              rw [h2] at hb
              try rw [show (q.toBitVec.setWidth 32 : Reg) >>> 0 = q.toBitVec.setWidth 32 from rfl] at hb
              have HH1 := Hid.mk' h1
              have HH2 := Hid.mk' h2
              clear h1 h2
              simp only [Bool.false_eq_true, if_false, if_true] at ha hb
              go_wp2_with fail
              go_round
              case rel => exact ⟨_ + 1, rfl, by omega, by rw [HST.out, HH1.out, HH2.out]; rfl⟩
              case measure => simp [intOf]
        · obtain rfl : n = 8 := by omega
          rw [byte_bits]
          go_wp2_with fail
          go_round
          case rel => exact ⟨j + 1, by go_num, hlt, by rw [HS.out]⟩
          case measure => simp [intOf]; omega
    · go_wp2_with fail
      go_ret
      rw [List.take_of_length_le (by omega)]
      exact ⟨rfl, rfl⟩
@[go_sem] theorem and255 (x : Reg) : bits .and .u32 (tn x) 255 = bn (x.setWidth 8) := by
  show IntKind.u32.wrap (((BitVec.ofInt 32 (tn x)) &&& 255#32).toNat : Int) = _
  rw [ofInt32, wrap32]
  unfold tn bn
  congr 1
  rw [BitVec.toNat_and, BitVec.toNat_setWidth]
  exact Nat.and_two_pow_sub_one_eq_mod _ 8
@[go_sem] theorem wrapbn (x : BitVec 8) : IntKind.u8.wrap (bn x) = bn x := wrap8 x
theorem cseal_ref {w : World} {R : Snap} {L : Asrt} {v : Value} {b : List UInt8} (H : Holds w R L) (hr : RdB R.cell? v b) (hb : b.length ≤ 1000000) :
    Calls Try.prog 58 #[v] w fun e w' => ∃ o, e = .returned o ∧ Holds w' R (star (rowB o (sealB b)) L) := by
  obtain ⟨a, c, rfl⟩ := hr.form
  go_enter Try.func58, Try.ntmps58
  go_wp2_with fail
  refine (csum_ref (hr.world H)).mono ?_
  rintro e w1 ⟨rfl, rfl⟩
  go_wp2_with (with_reducible refine stop_append ?_)
  refine Hold.go (wpList_appendB rfl _ _ rfl rfl rfl (freshB H) (hr.world (H.garbage _)) (by simp only [List.length_nil]; omega) ?_)
  intro v2 w2 H2
  rw [List.nil_append] at H2
  go_wp2_with fail
  have H5 : Holds w2 R (star (rowB v2 (b ++ (fourB (crcOf b)).take 0)) L) := by simpa using H2
  go_loopw [4, 5] (fun o i wx => ∃ j : Nat, i = .int .i64 j ∧ j ≤ 4 ∧ Holds wx R (star (rowB o (b ++ (fourB (crcOf b)).take j)) L)) (fun _ i _ => 4 - (intOf i).toNat)
  case atStart => exact ⟨0, rfl, Nat.zero_le _, H5⟩
  case round =>
    clear H2 H5
    obtain ⟨j, rfl, hj, H6⟩ := hrel
    by_cases hlt : j < 4
    · have hs := fourB_take_succ (crcOf b) hlt
      have HS := Hid.mk' hs
      have hln : (b ++ (fourB (crcOf b)).take j).length ≤ 1000010 := by
        rw [List.length_append, List.length_take, fourB_length]; omega
      clear hs
      rcases (by omega : j = 0 ∨ j = 1 ∨ j = 2 ∨ j = 3) with rfl | rfl | rfl | rfl
      · go_wp2_with (with_reducible refine stop_append ?_)
        refine Hold.go (wpList_appendB rfl _ _ rfl rfl rfl (H6.garbage _) (blkRdB (H6.alloc _ _) [fb (crcOf b) 0] rfl rfl (Nat.le_of_ble_eq_true rfl)) (by rw [List.length_singleton]; omega) ?_)
        intro v7 w7 H7
        go_wp2_with fail
        go_roundw
        case rel => exact ⟨1, rfl, by omega, by rw [HS.out, ← List.append_assoc]; exact H7⟩
        case measure => simp [intOf]
      · go_wp2_with (with_reducible refine stop_append ?_)
        refine Hold.go (wpList_appendB rfl _ _ rfl rfl rfl (H6.garbage _) (blkRdB (H6.alloc _ _) [fb (crcOf b) 1] rfl rfl (Nat.le_of_ble_eq_true rfl)) (by rw [List.length_singleton]; omega) ?_)
        intro v7 w7 H7
        go_wp2_with fail
        go_roundw
        case rel => exact ⟨2, rfl, by omega, by rw [HS.out, ← List.append_assoc]; exact H7⟩
        case measure => simp [intOf]
      · go_wp2_with (with_reducible refine stop_append ?_)
        refine Hold.go (wpList_appendB rfl _ _ rfl rfl rfl (H6.garbage _) (blkRdB (H6.alloc _ _) [fb (crcOf b) 2] rfl rfl (Nat.le_of_ble_eq_true rfl)) (by rw [List.length_singleton]; omega) ?_)
        intro v7 w7 H7
        go_wp2_with fail
        go_roundw
        case rel => exact ⟨3, rfl, by omega, by rw [HS.out, ← List.append_assoc]; exact H7⟩
        case measure => simp [intOf]
      · go_wp2_with (with_reducible refine stop_append ?_)
        refine Hold.go (wpList_appendB rfl _ _ rfl rfl rfl (H6.garbage _) (blkRdB (H6.alloc _ _) [fb (crcOf b) 3] rfl rfl (Nat.le_of_ble_eq_true rfl)) (by rw [List.length_singleton]; omega) ?_)
        intro v7 w7 H7
        go_wp2_with fail
        go_roundw
        case rel => exact ⟨4, rfl, by omega, by rw [HS.out, ← List.append_assoc]; exact H7⟩
        case measure => simp [intOf]
    · obtain rfl : j = 4 := by omega
      go_wp2_with fail
      go_ret
      exact ⟨_, rfl, H6⟩
theorem cgood_ref {w : World} {R : Snap} {L : Asrt} {v : Value} {b : List UInt8} (H : Holds w R L) (hr : RdB R.cell? v b) (hb : b.length ≤ 1000000) :
    Calls Try.prog 136 #[v] w fun e w' => e = .returned (.bool (goodB b)) ∧ Holds w' R L := by
  obtain ⟨a, c, rfl⟩ := hr.form
  by_cases h4 : 4 ≤ b.length
  · have hB := hr.bounds
    obtain ⟨n, hn⟩ : ∃ n, n = b.length - 4 := ⟨_, rfl⟩
    have hbn : b.length = n + 4 := by omega
    have hbz : (b.length : Int) - 4 = n := by omega
    have i1 : (0 : Int) ≤ (n : Int) := by omega
    have i2 : (n : Int) ≤ (c : Int) := by omega
    have hpre := RdB.pre hr n (by omega)
    have t0 : (decide ((b.length : Int) < 4)) = false := by simp; omega
    have hbt : (b.take n).length = n := by simp; omega
    have HN := Hid.mk' hbn
    clear hn
    go_enter Try.func136, Try.ntmps136
    go_wp2_with fail
    refine (cseal_ref H hpre (by omega)).mono ?_
    rintro e w1 ⟨o, rfl, H1⟩
    obtain ⟨ao, co, rfl⟩ := H1.rowRd.form
    go_wp2_with fail
    have hsl : (sealB (b.take n)).length = n + 4 := by rw [sealB, List.length_append, fourB_length, hbt]
    have hgs : goodB b = decide (b = sealB (b.take n)) := by
      unfold goodB
      rw [show b.length - 4 = n by omega]
      simp [h4]
    have HG := Hid.mk' hgs
    generalize sealB (b.take n) = s at H1 hsl HG ⊢
    clear hgs
    rw [hsl] at H1
    rw [hsl]
    go_loopw [4] (fun i wx => ∃ j : Nat, i = .int .i64 j ∧ j ≤ n + 4 ∧ (∀ i, i < j → s[i]? = b[i]?) ∧ Holds wx R (star (row tU8 1 (.slice ao (n + 4) co) (n + 4) (u8s s)) L)) (fun i _ => n + 4 - (intOf i).toNat)
    case atStart => exact ⟨0, rfl, Nat.zero_le _, fun i hi => absurd hi (Nat.not_lt_zero i), by have h := H1; unfold rowB at h; rw [hsl] at h; exact h⟩
    case round =>
      clear H1
      obtain ⟨j, rfl, hj, hall, H6⟩ := hrel
      have HA := Hid.mk' hall
      clear hall
      by_cases hlt : j < n + 4
      · have hrs : RdB wr.cell? (.slice ao (n + 4) co) s := by have h := H6.rowRd; unfold RdB; rw [hsl]; exact h
        obtain ⟨bs, os, rfl, hcs⟩ := RdB.open hrs (by omega)
        obtain ⟨bb, ob, rfl, hcb⟩ := RdB.open hr (by omega)
        have hnj : j < b.length := by omega
        have hsj : j < s.length := by omega
        have cj := H6.cell (hcb j hnj)
        have cs := hcs j hsj
        have hgj : b[j]? = some b[j] := List.getElem?_eq_getElem hnj
        have hgs : s[j]? = some s[j] := List.getElem?_eq_getElem hsj
        have HJ := Hid.mk' hgj
        have HJS := Hid.mk' hgs
        have i3 : (0 : Int) ≤ (j : Int) := by omega
        have i4 : (j : Int) < (n : Int) + 4 := by omega
        clear hcb hcs hgj hgs hrs
        generalize b[j] = y at cj HJ
        generalize s[j] = z at cs HJS
        by_cases hyx : z = y
        · subst hyx
          have hsucc : ∀ i, i < j + 1 → s[i]? = b[i]? := fun i hi => by
            by_cases h : i < j
            · exact HA.out i h
            · obtain rfl : i = j := by omega
              rw [HJ.out, HJS.out]
          have HSU := Hid.mk' hsucc
          clear hsucc
          go_wp2_with fail
          go_quiet (fail)
          go_wp2_with fail
          go_roundw
          case rel => exact ⟨j + 1, by go_num, hlt, HSU.out, H6.drewN _⟩
          case measure => simp [intOf]; omega
        · have hz : ¬ ((z.toNat : Int) = (y.toNat : Int)) := fun e => hyx (UInt8.toNat_inj.1 (by omega))
          have hfail : goodB b = false := by
            rw [HG.out, decide_eq_false_iff_not]
            intro e
            have := HJ.out
            rw [e, HJS.out] at this
            exact hyx (Option.some.inj this)
          go_wp2_with fail
          go_quiet (fail)
          go_wp2_with fail
          go_ret
          rw [hfail]
          exact ⟨rfl, (H6.drewN _).drop⟩
      · obtain rfl : j = n + 4 := by omega
        have hok : goodB b = true := by
          rw [HG.out, decide_eq_true_eq]
          apply List.ext_getElem?
          intro i
          by_cases h : i < n + 4
          · exact (HA.out i h).symm
          · rw [List.getElem?_eq_none (by omega), List.getElem?_eq_none (by omega)]
        go_wp2_with fail
        go_ret
        rw [hok]
        exact ⟨rfl, H6.drop⟩
  · have t1 : (decide ((b.length : Int) < 4)) = true := by simp; omega
    have hg : goodB b = false := by unfold goodB; simp [h4]
    go_enter Try.func136, Try.ntmps136
    go_wp2_with fail
    go_ret
    rw [hg]
    exact ⟨rfl, H⟩
/-- What a turn gives: as long, and the same but for 32 bits from 'first' on. -/
def turnedB (b x : List UInt8) (first : Int) : Prop := x.length = b.length ∧ ∀ i : Nat, ((i : Int) < first ∨ first + 32 ≤ i) → bitAt x i = bitAt b i
theorem bitAt_set {l : List UInt8} {m : Nat} {c : UInt8} {i : Nat} (h : i ≠ m) (hm : m / 8 < l.length) (hc : ∀ r, r < 8 → r ≠ m % 8 → c.toBitVec.getLsbD r = (l.getD (m / 8) 0).toBitVec.getLsbD r) : bitAt (l.set (m / 8) c) i = bitAt l i := by
  unfold bitAt
  by_cases e : m / 8 = i / 8
  · rw [List.getD_eq_getElem?_getD, ← e, List.getElem?_set_self hm]
    show c.toBitVec.getLsbD (i % 8) = _
    exact hc (i % 8) (by omega) (by omega)
  · rw [List.getD_eq_getElem?_getD, List.getElem?_set_ne e, ← List.getD_eq_getElem?_getD]
@[go_sem] theorem wrapu8_1 : IntKind.u8.wrap 1 = 1 := by decide
@[go_sem] theorem wrapu8_2 : IntKind.u8.wrap 2 = 2 := by decide
@[go_sem] theorem wrapu8_4 : IntKind.u8.wrap 4 = 4 := by decide
@[go_sem] theorem wrapu8_8 : IntKind.u8.wrap 8 = 8 := by decide
@[go_sem] theorem wrapu8_16 : IntKind.u8.wrap 16 = 16 := by decide
@[go_sem] theorem wrapu8_32 : IntKind.u8.wrap 32 = 32 := by decide
@[go_sem] theorem wrapu8_64 : IntKind.u8.wrap 64 = 64 := by decide
@[go_sem] theorem wrapu8_128 : IntKind.u8.wrap 128 = 128 := by decide
theorem flip_mask : ∀ r, r < 8 → ∀ s, s < 8 → s ≠ r → (BitVec.ofNat 8 (2 ^ r)).getLsbD s = false := by decide
theorem flip_bit (y : UInt8) (r : Nat) (hr : r < 8) : ∃ z : UInt8, bits .xor .u8 (y.toNat : Int) ((2 ^ r : Nat) : Int) = (z.toNat : Int) ∧ ∀ s, s < 8 → s ≠ r → z.toBitVec.getLsbD s = y.toBitVec.getLsbD s := by
  refine ⟨UInt8.ofBitVec (y.toBitVec ^^^ BitVec.ofNat 8 (2 ^ r)), ?_, fun s hs hne => ?_⟩
  · show IntKind.u8.wrap (((BitVec.ofInt 8 (bn y.toBitVec)) ^^^ (BitVec.ofInt 8 ((2 ^ r : Nat) : Int))).toNat : Int) = _
    rw [ofInt8, wrap8, BitVec.ofInt_natCast]; rfl
  · show (y.toBitVec ^^^ BitVec.ofNat 8 (2 ^ r)).getLsbD s = _
    rw [BitVec.getLsbD_xor, flip_mask r hr s hs hne, Bool.xor_false]
theorem turn_spec {w : World} {R : Snap} {L : Asrt} {v : Value} {b : List UInt8} {first : Int} {mask : Reg} (H : Holds w R L) (hr : RdB R.cell? v b) (hb : b.length ≤ 1000000) (hf : -9223372036854775808 ≤ first ∧ first ≤ 9223372036854775807) :
    Calls Try.prog 60 #[v, .int .i64 first, .int .u32 (tn mask)] w fun e w' => ∃ o x, e = .returned o ∧ turnedB b x first ∧ Holds w' R (star (rowB o x) L) := by
  obtain ⟨a, c, rfl⟩ := hr.form
  go_enter Try.func60, Try.ntmps60
  go_wp2_with (with_reducible refine stop_append ?_)
  refine Hold.go (wpList_appendB rfl _ _ rfl rfl rfl (freshB H) (hr.world (H.garbage _)) (by simp only [List.length_nil]; omega) ?_)
  intro v2 w2 H2
  rw [List.nil_append] at H2
  go_wp2_with fail
  obtain ⟨ao, co, rfl⟩ := H2.rowRd.form
  go_loopw [8] (fun i wx => ∃ (j : Nat) (x : List UInt8), i = .int .i64 j ∧ j ≤ 32 ∧ turnedB b x first ∧ Holds wx R (star (row tU8 1 (.slice ao b.length co) b.length (u8s x)) L)) (fun i _ => 32 - (intOf i).toNat)
  case atStart => exact ⟨0, b, rfl, Nat.zero_le _, ⟨rfl, fun _ _ => rfl⟩, H2⟩
  case round =>
    clear H2
    obtain ⟨j, x, rfl, hj, hx, H6⟩ := hrel
    by_cases hlt : j < 32
    · have hxl := hx.1
      have hs : tn mask / (2 : Int) ^ j = tn (mask >>> j) := shr32 mask j
      have ha := and1 (mask >>> j)
      by_cases hskip : (mask >>> j).getLsbD 0 = false ∨ first < 0 ∨ 8 * (b.length : Int) - 1 - j < first
      · by_cases hm0 : (mask >>> j).getLsbD 0 = true
        · rw [hm0, if_pos rfl] at ha
          by_cases hf0 : first < 0
          · have t1 : (decide (first < 0)) = true := by simpa using hf0
            clear hskip hm0
            go_wp2_with fail
            go_roundw
            case rel => exact ⟨j + 1, x, by go_num, hlt, hx, H6⟩
            case measure => simp [intOf]; omega
          · have hf1 : 8 * (b.length : Int) - 1 - j < first := by
              rcases hskip with h | h | h
              · rw [h] at hm0; cases hm0
              · exact absurd h hf0
              · exact h
            have t1 : (decide (first < 0)) = false := by simpa using hf0
            have t2 : (decide (8 * (b.length : Int) - 1 - j < first)) = true := by simpa using hf1
            clear hskip hm0
            go_wp2_with fail
            go_roundw
            case rel => exact ⟨j + 1, x, by go_num, hlt, hx, H6⟩
            case measure => simp [intOf]; omega
        · rw [if_neg hm0] at ha
          clear hskip hm0
          go_wp2_with fail
          go_roundw
          case rel => exact ⟨j + 1, x, by go_num, hlt, hx, H6⟩
          case measure => simp [intOf]; omega
      · obtain ⟨hm1, hf0, hf1⟩ : (mask >>> j).getLsbD 0 = true ∧ 0 ≤ first ∧ first ≤ 8 * (b.length : Int) - 1 - j := by
          refine ⟨?_, by omega, by omega⟩
          cases h : (mask >>> j).getLsbD 0 with
          | true => rfl
          | false => exact absurd (.inl h) hskip
        rw [hm1, if_pos rfl] at ha
        obtain ⟨f, rfl⟩ : ∃ f : Nat, first = f := ⟨first.toNat, by omega⟩
        obtain ⟨m, hm⟩ : ∃ m, m = f + j := ⟨_, rfl⟩
        obtain ⟨k, hk⟩ : ∃ k, k = m / 8 := ⟨_, rfl⟩
        obtain ⟨r, hrr⟩ : ∃ r, r = m % 8 := ⟨_, rfl⟩
        have hat : (f : Int) + (j : Int) = (m : Int) := by omega
        have hq : (m : Int).tdiv 8 = (k : Int) := by rw [Int.tdiv_eq_ediv_of_nonneg (by omega)]; omega
        have hrm : (m : Int).tmod 8 = (r : Int) := by rw [Int.tmod_eq_emod_of_nonneg (by omega)]; omega
        have hkl : k < b.length := by omega
        have hr8 : r < 8 := by omega
        have t1 : (decide ((f : Int) < 0)) = false := by simp
        have t2 : (decide (8 * (b.length : Int) - 1 - j < f)) = false := by simp; omega
        have HK := Hid.mk' (And.intro hm (And.intro hk hrr))
        clear hskip hm1 hm hk hrr
        obtain ⟨g, cap, e1, hc, hg2, hcl, hfz⟩ := H6.rowAt (by omega)
        simp only [Value.slice.injEq, true_and] at e1
        obtain ⟨rfl, rfl⟩ := e1
        have hkx : k < x.length := by rw [hxl]; exact hkl
        have ck := hcl k (.int .u8 (x[k].toNat : Int)) (by rw [u8s, List.getElem?_map, List.getElem?_eq_getElem hkx]; rfl)
        have fk := hfz k
        have hy : x.getD k 0 = x[k] := by rw [List.getD_eq_getElem?_getD, List.getElem?_eq_getElem hkx]; rfl
        obtain ⟨z, hz, hzb⟩ := flip_bit x[k] r hr8
        rw [← hy] at hz hzb ck
        generalize x.getD k 0 = y at hz ck
        have HZ := Hid.mk' hzb
        have HX := Hid.mk' hx
        have hnew : turnedB b (x.set k z) (f : Int) := by
          obtain ⟨h1, h2, h3⟩ := HK.out
          refine ⟨by rw [List.length_set]; exact hxl, fun i hi => ?_⟩
          rw [← hx.2 i hi, h2]
          refine bitAt_set (by omega) (by rw [← h2]; exact hkx) (fun s hs hne => ?_)
          rw [← h2]
          exact hzb s hs (by omega)
        have HNW := Hid.mk' hnew
        have i1 : (0 : Int) ≤ (k : Int) := by omega
        have i2 : (k : Int) < (b.length : Int) := by omega
        have wk : IntKind.i64.wrap (k : Int) = (k : Int) := IntWalk.i64_in _ (by omega)
        clear hcl hfz hy hzb hx hnew
        have hfin : ∀ w', w' = wr.drew.setCell ⟨g, k, none⟩ (.int .u8 (z.toNat : Int)) → Holds w' R (star (row tU8 1 (.slice (some ⟨g, 0, none⟩) b.length co) b.length (u8s (x.set k z))) L) := by
          rintro w' rfl
          have h := row_write H6.drew k (z.toNat : Int) hkl (by have := u8_lt z; omega)
          rw [Int.toNat_natCast, show UInt8.ofNat z.toNat = z by simp] at h
          exact h
        have HF := Hid.mk' hfin
        clear hfin
        rcases (by omega : r = 0 ∨ r = 1 ∨ r = 2 ∨ r = 3 ∨ r = 4 ∨ r = 5 ∨ r = 6 ∨ r = 7) with rfl | rfl | rfl | rfl | rfl | rfl | rfl | rfl
        · have hz2 : bits .xor .u8 (y.toNat : Int) 1 = (z.toNat : Int) := hz
          clear hz
          go_wp2_with fail
          go_still_tail 13, (by kernel_rfl)
          change wpList _ _ _ _ _ wr.drew
          go_wp2_with fail
          go_roundw
          case rel => exact ⟨j + 1, x.set k z, by go_num, hlt, HNW.out, HF.out _ rfl⟩
          case measure => simp [intOf]; omega
        · have hz2 : bits .xor .u8 (y.toNat : Int) 2 = (z.toNat : Int) := hz
          clear hz
          go_wp2_with fail
          go_still_tail 13, (by kernel_rfl)
          change wpList _ _ _ _ _ wr.drew
          go_wp2_with fail
          go_roundw
          case rel => exact ⟨j + 1, x.set k z, by go_num, hlt, HNW.out, HF.out _ rfl⟩
          case measure => simp [intOf]; omega
        · have hz2 : bits .xor .u8 (y.toNat : Int) 4 = (z.toNat : Int) := hz
          clear hz
          go_wp2_with fail
          go_still_tail 13, (by kernel_rfl)
          change wpList _ _ _ _ _ wr.drew
          go_wp2_with fail
          go_roundw
          case rel => exact ⟨j + 1, x.set k z, by go_num, hlt, HNW.out, HF.out _ rfl⟩
          case measure => simp [intOf]; omega
        · have hz2 : bits .xor .u8 (y.toNat : Int) 8 = (z.toNat : Int) := hz
          clear hz
          go_wp2_with fail
          go_still_tail 13, (by kernel_rfl)
          change wpList _ _ _ _ _ wr.drew
          go_wp2_with fail
          go_roundw
          case rel => exact ⟨j + 1, x.set k z, by go_num, hlt, HNW.out, HF.out _ rfl⟩
          case measure => simp [intOf]; omega
        · have hz2 : bits .xor .u8 (y.toNat : Int) 16 = (z.toNat : Int) := hz
          clear hz
          go_wp2_with fail
          go_still_tail 13, (by kernel_rfl)
          change wpList _ _ _ _ _ wr.drew
          go_wp2_with fail
          go_roundw
          case rel => exact ⟨j + 1, x.set k z, by go_num, hlt, HNW.out, HF.out _ rfl⟩
          case measure => simp [intOf]; omega
        · have hz2 : bits .xor .u8 (y.toNat : Int) 32 = (z.toNat : Int) := hz
          clear hz
          go_wp2_with fail
          go_still_tail 13, (by kernel_rfl)
          change wpList _ _ _ _ _ wr.drew
          go_wp2_with fail
          go_roundw
          case rel => exact ⟨j + 1, x.set k z, by go_num, hlt, HNW.out, HF.out _ rfl⟩
          case measure => simp [intOf]; omega
        · have hz2 : bits .xor .u8 (y.toNat : Int) 64 = (z.toNat : Int) := hz
          clear hz
          go_wp2_with fail
          go_still_tail 13, (by kernel_rfl)
          change wpList _ _ _ _ _ wr.drew
          go_wp2_with fail
          go_roundw
          case rel => exact ⟨j + 1, x.set k z, by go_num, hlt, HNW.out, HF.out _ rfl⟩
          case measure => simp [intOf]; omega
        · have hz2 : bits .xor .u8 (y.toNat : Int) 128 = (z.toNat : Int) := hz
          clear hz
          go_wp2_with fail
          go_still_tail 13, (by kernel_rfl)
          change wpList _ _ _ _ _ wr.drew
          go_wp2_with fail
          go_roundw
          case rel => exact ⟨j + 1, x.set k z, by go_num, hlt, HNW.out, HF.out _ rfl⟩
          case measure => simp [intOf]; omega
    · go_wp2_with fail
      go_ret
      exact ⟨_, x, rfl, hx, by unfold rowB; rw [hx.1]; exact H6⟩
end Sh
