/- MsgPut Chg EntCheck MsgSize: joined texts, each with its own sentence below. -/
import Derived.Test.YtmogagcffebbaaaEn5
import Derived.Test.YtmogagcffebbaaaEn2
import Derived.Test.YtmogagcffebbaaaEn3
import Derived.Maps.OwnSet
import Derived.Maps.OwnOps
import Derived.Maps.Own
/- msg.Put. -/
set_option linter.unusedVariables false
set_option linter.unusedSimpArgs false
namespace Sh
open Go Go.RowKit Go.Proofs
attribute [local go_sem ↓] Go.wp_at_zero Go.wp_at_succ
set_option maxHeartbeats 1000000
set_option maxRecDepth 100000

theorem flatB_len {α : Type} {f : α → List UInt8} {k : Nat} (h : ∀ x, (f x).length = k) : ∀ l : List α, (l.flatMap f).length = l.length * k
  | [] => by simp
  | x :: l => by rw [List.flatMap_cons, List.length_append, h, flatB_len h l, List.length_cons, Nat.succ_mul]; omega
theorem txs_len {l : List ByteArray} (h : l.all nameOk = true) (j : Nat) : ((l.take j).flatMap txS).length ≤ 17 * j := by
  have key : ∀ (l : List ByteArray), (∀ s ∈ l, s.size ≤ 16) → (l.flatMap txS).length ≤ 17 * l.length := by
    intro l
    induction l with
    | nil => intro _; simp
    | cons x l ih =>
      intro hx
      have h1 := ih fun s hs => hx s (List.mem_cons_of_mem _ hs)
      have h2 := hx x List.mem_cons_self
      have h3 : (txS x).length ≤ 17 := by
        rw [txS, tx_small (by rw [strB_len]; omega), List.length_append, nb_length, strB_len]
        have : wid 1 = 1 := by decide
        omega
      rw [List.flatMap_cons, List.length_append, List.length_cons]
      omega
  have h1 := key (l.take j) fun s hs => nameOk_len (List.all_eq_true.1 h s (List.mem_of_mem_take hs))
  have h2 : (l.take j).length ≤ j := by rw [List.length_take]; omega
  omega
theorem wid_1 : wid 1 = 1 := by decide
theorem wid_2 : wid 2 = 2 := by decide
theorem wid_4 : wid 4 = 4 := by decide
theorem mput_bad {w : World} {R : Snap} {L : Asrt} {pt : Option Addr} (m : Ms) (H : Holds w R L) (hm : m.Rd R.cell?) (hz : m.Sz) (hok : msgOk m = false) :
    Calls Try.prog 52 #[.pointer pt, .agg m.cells.toArray] w fun e w' => e = .returned (.tuple #[.slice none 0 0, .int .i64 3]) ∧ Holds w' R L := by
  have HM := Hid.mk' hm
  have HZ := Hid.mk' hz
  have HOK := Hid.mk' hok
  obtain ⟨kind, from_, to_, ballot, name, attempt, epoch, mark, size, what, vw, vn, vd, who, names, data⟩ := m
  obtain ⟨hw, hn, hd⟩ := hm
  obtain ⟨z1, z2, z3, z4, z5⟩ := hz
  simp only at z1 z2 z3 z4 z5 hw hn hd
  obtain ⟨aw, cw, rfl⟩ := hw.form
  obtain ⟨an, cn, rfl⟩ := hn.form
  obtain ⟨ad, cd, rfl⟩ := hd.form
  obtain ⟨R1, le1, H1, hb⟩ := H.allocR (.cells #[.int .i64 kind, .int .i64 from_, .int .i64 to_, .int .i64 ballot, .string name, .int .i64 attempt, .int .i64 epoch, .int .i64 mark, .int .i64 size, .int .i64 what, .slice aw who.length cw, .slice an names.length cn, .slice ad data.length cd] tMsg (0, 0))
  clear hw hn hd hok H
  obtain ⟨l1, n1, c1⟩ := Holds.frzFacts (H1) hb
  show Calls _ _ #[.pointer pt, .agg #[.int .i64 kind, .int .i64 from_, .int .i64 to_, .int .i64 ballot, .string name, .int .i64 attempt, .int .i64 epoch, .int .i64 mark, .int .i64 size, .int .i64 what, .slice aw who.length cw, .slice an names.length cn, .slice ad data.length cd]] _ _
  go_enter Try.func52, Try.ntmps52
  go_wp2_with fail
  refine (right25_spec (⟨kind, from_, to_, ballot, name, attempt, epoch, mark, size, what, .slice aw who.length cw, .slice an names.length cn, .slice ad data.length cd, who, names, data⟩ : Ms) H1 (fun w' h => (HM.out.le le1).world h) HZ.out).mono ?_
  rintro e w2 ⟨rfl, H2⟩
  rw [HOK.out]
  go_wp2_with fail
  go_ret2
  exact ⟨rfl, H2.weaken le1⟩
theorem mput_gen {w : World} {R : Snap} {L : Asrt} {pt : Option Addr} (g : List UInt8 → List UInt8) (m : Ms) (H : Holds w R L) (hm : m.Rd R.cell?) (hz : m.Sz) (hok : msgOk m = true) (hseal : ∀ (w : World) (R' : Snap) (L' : Asrt) (v : Value) (b : List UInt8), R.le R' → Holds w R' L' → RdB R'.cell? v b → b.length ≤ 1000000 → Calls Try.prog 117 #[.pointer pt, v] w fun e w' => ∃ o, e = .returned o ∧ Holds w' R' (star (rowB o (g b)) L')) :
    Calls Try.prog 52 #[.pointer pt, .agg m.cells.toArray] w fun e w' => ∃ o, e = .returned (.tuple #[o, .int .i64 0]) ∧ Holds w' R (star (rowB o (g (bodyB m))) L) := by
  have HM := Hid.mk' hm
  have HZ := Hid.mk' hz
  have HOK := Hid.mk' hok
  have hk := hok
  simp only [msgOk, Bool.and_eq_true, decide_eq_true_eq, Bool.or_eq_true] at hk
  obtain ⟨⟨⟨⟨⟨⟨⟨⟨⟨⟨k1, k2⟩, k3⟩, k4⟩, k5⟩, k6⟩, k7⟩, k8⟩, k9⟩, k10⟩, k11⟩ := hk
  have f1 := inAll_mem k4 (x := m.from_) (by simp)
  have f2 := inAll_mem k4 (x := m.to_) (by simp)
  have f3 := inAll_mem k5 (x := m.ballot) (by simp)
  have f4 := inAll_mem k5 (x := m.attempt) (by simp)
  have f5 := inAll_mem k5 (x := m.epoch) (by simp)
  have f6 := inAll_mem k5 (x := m.mark) (by simp)
  have f7 := inAll_mem k7 (x := m.size) (by simp)
  have f8 := inAll_mem k7 (x := (m.data.length : Int)) (by simp)
  have f9 := inAll_mem k8 (x := m.what) (by simp)
  have f10 := inAll_mem k8 (x := (m.who.length : Int)) (by simp)
  obtain ⟨kind, from_, to_, ballot, name, attempt, epoch, mark, size, what, vw, vn, vd, who, names, data⟩ := m
  obtain ⟨hw, hn, hd⟩ := hm
  obtain ⟨z1, z2, z3, z4, z5⟩ := hz
  simp only at z1 z2 z3 z4 z5 hw hn hd
  obtain ⟨aw, cw, rfl⟩ := hw.form
  obtain ⟨an, cn, rfl⟩ := hn.form
  obtain ⟨ad, cd, rfl⟩ := hd.form
  simp only at k1 k2 k6 k9 k10 k11 f1 f2 f3 f4 f5 f6 f7 f8 f9 f10
  obtain ⟨R1, le1, H1, hb⟩ := H.allocR (.cells #[.int .i64 kind, .int .i64 from_, .int .i64 to_, .int .i64 ballot, .string name, .int .i64 attempt, .int .i64 epoch, .int .i64 mark, .int .i64 size, .int .i64 what, .slice aw who.length cw, .slice an names.length cn, .slice ad data.length cd] tMsg (0, 0))
  have HW := Hid.mk' (Rd.le hw le1)
  have HN := Hid.mk' (Rd.le hn le1)
  have HD := Hid.mk' (Rd.le hd le1)
  have HS := Hid.mk' hseal
  have K6 := Hid.mk' k6
  have K10 := Hid.mk' k10
  clear hw hn hd hok H k3 k4 k5 k7 k8 hseal k6 k10
  obtain ⟨l1, n1, c1⟩ := Holds.frzFacts (H1) hb
  show Calls _ _ #[.pointer pt, .agg #[.int .i64 kind, .int .i64 from_, .int .i64 to_, .int .i64 ballot, .string name, .int .i64 attempt, .int .i64 epoch, .int .i64 mark, .int .i64 size, .int .i64 what, .slice aw who.length cw, .slice an names.length cn, .slice ad data.length cd]] _ _
  go_enter Try.func52, Try.ntmps52
  go_wp2_with fail
  refine (right25_spec (⟨kind, from_, to_, ballot, name, attempt, epoch, mark, size, what, .slice aw who.length cw, .slice an names.length cn, .slice ad data.length cd, who, names, data⟩ : Ms) H1 (fun w' h => (HM.out.le le1).world h) HZ.out).mono ?_
  rintro e w2 ⟨rfl, H2⟩
  rw [HOK.out]
  clear H1 l1 n1 c1
  have H3 : Holds _ R1 (star (wr _ []) L) := wr_shut (((H2.alloc #[.slice none 0 0] 153).nilRow tU8 1).swap)
  go_wp2_with fail
  generalize (World.alloc ..) = w3 at H3 ⊢
  generalize w2.heap.size = pw at H3 ⊢
  clear H2
  refine (num_spec H3 (by simp) (by omega)).mono ?_
  rintro e w4 ⟨rfl, H4⟩
  rw [List.nil_append] at H4
  clear H3
  obtain ⟨l4, n4, c4⟩ := Holds.frzFacts (H4) hb
  go_wp2_with fail
  refine (num_spec H4 (by simp [nb_length, wid_1, wid_2, wid_4]) (by omega)).mono ?_
  rintro e w5 ⟨rfl, H5⟩
  clear H4 l4 n4 c4
  obtain ⟨l5, n5, c5⟩ := Holds.frzFacts (H5) hb
  go_wp2_with fail
  refine (num_spec H5 (by simp [nb_length, wid_1, wid_2, wid_4]) (by omega)).mono ?_
  rintro e w6 ⟨rfl, H6⟩
  clear H5 l5 n5 c5
  obtain ⟨l6, n6, c6⟩ := Holds.frzFacts (H6) hb
  go_wp2_with fail
  refine (num_spec H6 (by simp [nb_length, wid_1, wid_2, wid_4]) (by omega)).mono ?_
  rintro e w7 ⟨rfl, H7⟩
  clear H6 l6 n6 c6
  obtain ⟨l7, n7, c7⟩ := Holds.frzFacts (H7) hb
  go_wp2_with fail
  refine (num_spec H7 (by simp [nb_length, wid_1, wid_2, wid_4]) (by omega)).mono ?_
  rintro e w8 ⟨rfl, H8⟩
  clear H7 l7 n7 c7
  obtain ⟨l8, n8, c8⟩ := Holds.frzFacts (H8) hb
  obtain ⟨as8, cs8, w9, hconv, R9, le9, H9, hs9⟩ := convBytes H8 z1
  clear l8 n8 c8
  obtain ⟨l8, n8, c8⟩ := Holds.frzFacts (H8) hb
  go_wp2_with fail
  have hlen9 : (strB name).length ≤ 1000000 := by
    rw [strB_len]
    rcases k11 with k | k
    · omega
    · have := nameOk_len k; omega
  refine (text_spec H9 (by simp [nb_length, wid_1, wid_2, wid_4]) hlen9 hs9).mono ?_
  rintro e w10 ⟨rfl, H10⟩
  have hb10 := le9.blk _ _ hb
  clear H8 H9 hconv l8 n8 c8
  have e10 : nb 1 77 ++ nb 1 kind ++ nb 2 from_ ++ nb 2 to_ ++ nb 4 ballot ++ nb 1 (min (strB name).length 255 : Nat) ++ (strB name).take 255 = nb 1 77 ++ (nb 1 kind ++ (nb 2 from_ ++ (nb 2 to_ ++ (nb 4 ballot ++ txS name)))) := by
    simp only [List.append_assoc, txS, tx]
  rw [e10] at H10
  obtain ⟨T, hT⟩ : ∃ T, T = nb 1 77 ++ (nb 1 kind ++ (nb 2 from_ ++ (nb 2 to_ ++ (nb 4 ballot ++ txS name)))) := ⟨_, rfl⟩
  have hTl : T.length ≤ 2000 := by
    rw [hT]; simp [nb_length, wid_1, wid_2, wid_4, txS, tx]; omega
  rw [← hT] at H10
  have HT := Hid.mk' hT
  clear hT e10
  obtain ⟨l10, n10, c10⟩ := Holds.frzFacts (H10) hb10
  have H11 := H10.alloc #[.int .i64 attempt, .int .i64 epoch, .int .i64 mark] tInt
  obtain ⟨R11, le11, H12, hb11⟩ := H11.freezeBlk
  have hb12 := le11.blk _ _ hb10
  clear H11
  have R11w : RdI R11.cell? (.slice (some ⟨w10.heap.size, 0, none⟩) 3 3) [attempt, epoch, mark] := by
    refine ⟨_, _, rfl, Nat.le_refl _, by decide, rfl, (fun e => by cases e), ?_⟩
    intro b' o' s e j u hu
    simp only [Option.some.injEq, Addr.mk.injEq] at e
    obtain ⟨rfl, rfl, rfl⟩ := e
    refine ⟨rfl, ?_⟩
    unfold Snap.cell?
    simp only [hb11, Nat.zero_add]
    simpa using hu
  have HR3 := Hid.mk' R11w
  have hle3 : ∀ x ∈ [attempt, epoch, mark], x ≤ 4294967295 := by
    intro x hx
    simp only [List.mem_cons, List.not_mem_nil, or_false] at hx
    rcases hx with rfl | rfl | rfl <;> omega
  have HL3 := Hid.mk' hle3
  clear R11w hle3
  have hgr : (World.alloc w10 (.cells #[.int .i64 attempt, .int .i64 epoch, .int .i64 mark] tInt)) = World.alloc w10 (.cells #[.int .i64 attempt, .int .i64 epoch, .int .i64 mark] tInt) := rfl
  go_wp2_with fail
  go_loopw [48] (fun i wx => ∃ j : Nat, i = .int .i64 j ∧ j ≤ 3 ∧ Holds wx R11 (star (wr pw (T ++ ([attempt, epoch, mark].take j).flatMap (nb 4))) L)) (fun i _ => 3 - (intOf i).toNat)
  case atStart => exact ⟨0, rfl, by omega, by simpa using H12⟩
  case round =>
    clear H12 l10 n10 c10 H10 hgr
    obtain ⟨j, rfl, hj, H13⟩ := hrel
    by_cases hlt : j < 3
    · have hjl : j < [attempt, epoch, mark].length := hlt
      obtain ⟨b1, o1, ha, hc⟩ := rdI_at (Rd.world HR3.out H13) hjl
      simp only [Option.some.injEq, Addr.mk.injEq] at ha
      obtain ⟨rfl, rfl, _⟩ := ha
      have hx := HL3.out _ (List.getElem_mem hjl)
      have i1 : (j : Int) < 3 := by omega
      have i0 : (0 : Int) ≤ (j : Int) := by omega
      have hs : Hid (([attempt, epoch, mark].take (j + 1)).flatMap (nb 4) = ([attempt, epoch, mark].take j).flatMap (nb 4) ++ nb 4 ([attempt, epoch, mark][j])) := Hid.mk' (by
        rw [List.take_succ_eq_append_getElem hjl, List.flatMap_append]; simp)
      have hl9 : (T ++ ([attempt, epoch, mark].take j).flatMap (nb 4)).length ≤ 1000000 := by
        rw [List.length_append, flatB_len (k := 4) (fun x => by rw [nb_length, wid_4]), List.length_take]; omega
      generalize [attempt, epoch, mark][j] = x at hc hx hs
      rw [Nat.zero_add] at hc
      go_wp2_with fail
      refine (num_spec (n := x) H13 hl9 (by omega)).mono ?_
      rintro e w14 ⟨rfl, H14⟩
      go_wp2_with fail
      go_roundw
      case rel => exact ⟨j + 1, by go_num, hlt, by rw [hs.out, ← List.append_assoc]; exact H14⟩
      case measure => simp [intOf]; omega
    · obtain rfl : j = 3 := by omega
      have e14 : T ++ ([attempt, epoch, mark].take 3).flatMap (nb 4) = T ++ (nb 4 attempt ++ (nb 4 epoch ++ nb 4 mark)) := by simp
      rw [e14] at H13
      clear e14
      obtain ⟨l13, n13, c13⟩ := Holds.frzFacts (H13) hb12
      go_wp2_with fail
      refine (num_spec (n := size) H13 (by simp [nb_length, wid_4]; omega) (by omega)).mono ?_
      rintro e w15 ⟨rfl, H15⟩
      clear H13 l13 n13 c13
      obtain ⟨l13, n13, c13⟩ := Holds.frzFacts (H15) hb12
      go_wp2_with fail
      refine (num_spec (n := what) H15 (by simp [nb_length, wid_4, wid_2]; omega) (by omega)).mono ?_
      rintro e w16 ⟨rfl, H16⟩
      clear H15 l13 n13 c13
      obtain ⟨l13, n13, c13⟩ := Holds.frzFacts (H16) hb12
      go_wp2_with fail
      refine (num_spec (n := (who.length : Int)) H16 (by simp [nb_length, wid_4, wid_2, wid_1]; omega) (by omega)).mono ?_
      rintro e w17 ⟨rfl, H17⟩
      clear H16 l13 n13 c13
      have e17 : T ++ (nb 4 attempt ++ (nb 4 epoch ++ nb 4 mark)) ++ nb 2 size ++ nb 1 what ++ nb 1 (who.length : Int) = T ++ (nb 4 attempt ++ (nb 4 epoch ++ (nb 4 mark ++ (nb 2 size ++ (nb 1 what ++ nb 1 (who.length : Int)))))) := by simp only [List.append_assoc]
      rw [e17] at H17
      obtain ⟨T2, hT2⟩ : ∃ T2, T2 = T ++ (nb 4 attempt ++ (nb 4 epoch ++ (nb 4 mark ++ (nb 2 size ++ (nb 1 what ++ nb 1 (who.length : Int)))))) := ⟨_, rfl⟩
      have hT2l : T2.length ≤ 4000 := by rw [hT2]; simp [nb_length, wid_4, wid_2, wid_1]; omega
      rw [← hT2] at H17
      have HT2 := Hid.mk' hT2
      clear hT2 e17
      obtain ⟨l13, n13, c13⟩ := Holds.frzFacts (H17) hb12
      obtain ⟨nw, hnw⟩ : ∃ nw, nw = who.length := ⟨_, rfl⟩
      have HNW := Hid.mk' hnw
      have hnw9 : nw ≤ 255 := by omega
      rw [← hnw] at c13
      have HWR : Hid (RdI R11.cell? (.slice aw nw cw) who) := Hid.mk' (by rw [hnw]; exact Rd.le HW.out (le9.trans le11))
      have HB12 : Hid (R11.blk w.heap.size = some (.cells #[.int .i64 kind, .int .i64 from_, .int .i64 to_, .int .i64 ballot, .string name, .int .i64 attempt, .int .i64 epoch, .int .i64 mark, .int .i64 size, .int .i64 what, .slice aw who.length cw, .slice an names.length cn, .slice ad data.length cd] tMsg (0, 0))) := Hid.mk' hb12
      have hbw : R11.blk w.heap.size = some (.cells #[.int .i64 kind, .int .i64 from_, .int .i64 to_, .int .i64 ballot, .string name, .int .i64 attempt, .int .i64 epoch, .int .i64 mark, .int .i64 size, .int .i64 what, .slice aw nw cw, .slice an names.length cn, .slice ad data.length cd] tMsg (0, 0)) := by rw [hnw]; exact hb12
      clear hnw hb12
      go_wp2_with fail
      go_loopw [72] (fun i wx => ∃ j : Nat, i = .int .i64 j ∧ j ≤ nw ∧ Holds wx R11 (star (Sh.wr pw (T2 ++ (who.take j).flatMap (nb 4))) L)) (fun i _ => nw - (intOf i).toNat)
      case atStart => exact ⟨0, rfl, Nat.zero_le _, by simpa using H17⟩
      case round =>
        clear H17 l13 n13 c13
        obtain ⟨j, rfl, hj, H18⟩ := hrel
        by_cases hlt2 : j < nw
        · have hjl : j < who.length := by rw [← HNW.out]; exact hlt2
          obtain ⟨b1, o1, ha, hc⟩ := rdI_at (Rd.world HWR.out H18) hjl
          subst ha
          have hx := (inAll_mem K6.out (List.getElem_mem hjl)).2
          have hs : Hid ((who.take (j + 1)).flatMap (nb 4) = (who.take j).flatMap (nb 4) ++ nb 4 (who[j])) := Hid.mk' (by
            rw [List.take_succ_eq_append_getElem hjl, List.flatMap_append]; simp)
          have hl9 : (T2 ++ (who.take j).flatMap (nb 4)).length ≤ 1000000 := by
            rw [List.length_append, flatB_len (k := 4) (fun x => by rw [nb_length, wid_4]), List.length_take]; omega
          generalize who[j] = x at hc hx hs
          go_wp2_with fail
          refine (num_spec (n := x) H18 hl9 (by omega)).mono ?_
          rintro e w19 ⟨rfl, H19⟩
          go_wp2_with fail
          go_roundw
          case rel => exact ⟨j + 1, by go_num, hlt2, by rw [hs.out, ← List.append_assoc]; exact H19⟩
          case measure => simp [intOf]; omega
        · rw [List.take_of_length_le (by have := HNW.out; omega)] at H18
          obtain ⟨T3, hT3⟩ : ∃ T3, T3 = T2 ++ who.flatMap (nb 4) := ⟨_, rfl⟩
          have hT3l : T3.length ≤ 6000 := by
            rw [hT3, List.length_append, flatB_len (k := 4) (fun x => by rw [nb_length, wid_4])]
            have := HNW.out
            omega
          rw [← hT3] at H18
          have HT3 := Hid.mk' hT3
          clear hT3
          obtain ⟨l13, n13, c13⟩ := Holds.frzFacts (H18) hbw
          go_wp2_with fail
          refine (num_spec (n := (names.length : Int)) H18 (by omega) (by omega)).mono ?_
          rintro e w20 ⟨rfl, H20⟩
          clear H18 l13 n13 c13
          obtain ⟨l13, n13, c13⟩ := Holds.frzFacts (H20) hbw
          obtain ⟨T4, hT4⟩ : ∃ T4, T4 = T3 ++ nb 1 (names.length : Int) := ⟨_, rfl⟩
          have hT4l : T4.length ≤ 6001 := by rw [hT4]; simp [nb_length, wid_1]; omega
          rw [← hT4] at H20
          have HT4 := Hid.mk' hT4
          obtain ⟨nn, hnn⟩ : ∃ nn, nn = names.length := ⟨_, rfl⟩
          have HNN := Hid.mk' hnn
          have hnn9 : nn ≤ 8 := by omega
          have hbn : R11.blk w.heap.size = some (.cells #[.int .i64 kind, .int .i64 from_, .int .i64 to_, .int .i64 ballot, .string name, .int .i64 attempt, .int .i64 epoch, .int .i64 mark, .int .i64 size, .int .i64 what, .slice aw nw cw, .slice an nn cn, .slice ad data.length cd] tMsg (0, 0)) := by rw [hnn]; exact hbw
          rw [← hnn] at c13
          have HNR : Hid (RdS R11.cell? (.slice an nn cn) names) := Hid.mk' (by rw [hnn]; exact Rd.le HN.out (le9.trans le11))
          clear hnn hT4 hbw
          go_wp2_with fail
          go_loopw [88] (fun i wx => ∃ (j : Nat) (R12 : Snap), i = .int .i64 j ∧ j ≤ nn ∧ R11.le R12 ∧ Holds wx R12 (star (Sh.wr pw (T4 ++ (names.take j).flatMap txS)) L)) (fun i _ => nn - (intOf i).toNat)
          case atStart => exact ⟨0, R11, rfl, Nat.zero_le _, Snap.le.refl _, by simpa using H20⟩
          case round =>
            clear H20 l13 n13 c13
            obtain ⟨j, R12, rfl, hj, le12, H21⟩ := hrel
            by_cases hlt3 : j < nn
            · have hjl : j < names.length := by rw [← HNN.out]; exact hlt3
              obtain ⟨b1, o1, ha, hc⟩ := rdS_at (Rd.world (Rd.le HNR.out le12) H21) hjl
              subst ha
              have hx16 := nameOk_len (List.all_eq_true.1 K10.out _ (List.getElem_mem hjl))
              have hxm := z2 _ (List.getElem_mem hjl)
              have hs : Hid ((names.take (j + 1)).flatMap txS = (names.take j).flatMap txS ++ txS (names[j])) := Hid.mk' (by
                rw [List.take_succ_eq_append_getElem hjl, List.flatMap_append]; simp)
              have hl9 : (T4 ++ (names.take j).flatMap txS).length ≤ 900000 := by
                rw [List.length_append]
                have := txs_len K10.out j
                omega
              generalize names[j] = x at hc hx16 hxm hs
              obtain ⟨a9, c9, w22, hconv, R22, le22, H22, hs22⟩ := convBytes H21 hxm
              go_wp2_with fail
              refine (text_spec H22 hl9 (by rw [strB_len]; omega) hs22).mono ?_
              rintro e w23 ⟨rfl, H23⟩
              clear hconv
              go_wp2_with fail
              go_roundw
              case rel =>
                refine ⟨j + 1, R22, by go_num, hlt3, le12.trans le22, ?_⟩
                rw [hs.out, ← List.append_assoc, txS, tx, ← List.append_assoc]; exact H23
              case measure => simp [intOf]; omega
            · rw [List.take_of_length_le (by have := HNN.out; omega)] at H21
              have hb13 := le12.blk _ _ hbn
              obtain ⟨T5, hT5⟩ : ∃ T5, T5 = T4 ++ names.flatMap txS := ⟨_, rfl⟩
              have hT5l : T5.length ≤ 10000 := by
                rw [hT5, List.length_append]
                have := txs_len K10.out names.length
                rw [List.take_length] at this
                have := HNN.out
                omega
              rw [← hT5] at H21
              have HT5 := Hid.mk' hT5
              clear hT5
              obtain ⟨l13, n13, c13⟩ := Holds.frzFacts (H21) hb13
              go_wp2_with fail
              refine (text_spec H21 (by omega) z5 (Rd.le HD.out ((le9.trans le11).trans le12))).mono ?_
              rintro e w24 ⟨rfl, H24⟩
              clear H21 l13 n13 c13
              have e24 : T5 ++ nb 1 (min data.length 255 : Nat) ++ data.take 255 = bodyB (⟨kind, from_, to_, ballot, name, attempt, epoch, mark, size, what, .slice aw who.length cw, .slice an names.length cn, .slice ad data.length cd, who, names, data⟩ : Ms) := by
                rw [HT5.out, HT4.out, HT3.out, HT2.out, HT.out]
                simp only [bodyB, bodyS, tx, List.append_assoc, List.append_nil]
              rw [e24] at H24
              have hbl : (bodyB (⟨kind, from_, to_, ballot, name, attempt, epoch, mark, size, what, .slice aw who.length cw, .slice an names.length cn, .slice ad data.length cd, who, names, data⟩ : Ms)).length ≤ 1000000 := by
                rw [← e24]; simp [nb_length, wid_1]; omega
              clear e24
              go_wp2_with fail
              refine (bytes_spec H24 hbl).mono ?_
              rintro e w25 ⟨v25, rfl, H25⟩
              obtain ⟨R26, le26, H26, hr26⟩ := H25.freezeRow
              have leA := (((le1.trans le9).trans le11).trans le12).trans le26
              go_wp2_with fail
              refine (HS.out _ _ _ _ _ leA H26 hr26 hbl).mono ?_
              rintro e w27 ⟨o, rfl, H27⟩
              go_wp2_with fail
              go_ret2
              exact ⟨o, rfl, (H27.drop2).weaken leA⟩
theorem mput_ok {w : World} {R : Snap} {L : Asrt} {p : Nat} (m : Ms) (H : Holds w R L) (hT : R.blk p = some (.cells (rowC 256) tabT (0, 0))) (hm : m.Rd R.cell?) (hz : m.Sz) (hok : msgOk m = true) :
    Calls Try.prog 52 #[.pointer (some ⟨p, 0, none⟩), .agg m.cells.toArray] w fun e w' => ∃ o, e = .returned (.tuple #[o, .int .i64 0]) ∧ Holds w' R (star (rowB o (putM m)) L) :=
  mput_gen sealB m H hm hz hok fun w R' L' v b le H hr hb => seal_crc H (le.blk _ _ hT) hr hb
theorem mput_nil {w : World} {R : Snap} {L : Asrt} (m : Ms) (H : Holds w R L) (hm : m.Rd R.cell?) (hz : m.Sz) (hok : msgOk m = true) :
    Calls Try.prog 52 #[.pointer none, .agg m.cells.toArray] w fun e w' => ∃ o, e = .returned (.tuple #[o, .int .i64 0]) ∧ Holds w' R (star (rowB o (bodyB m)) L) :=
  mput_gen id m H hm hz hok fun w R' L' v b le H hr hb => seal_nil H hr hb
end Sh
/- Changes: their cells; how a list of them reads; what is wrong with them; their text. -/
set_option linter.unusedVariables false
set_option linter.unusedSimpArgs false
namespace Sh
open Go Go.RowKit Go.Proofs
attribute [local go_sem ↓] Go.wp_at_zero Go.wp_at_succ
set_option maxHeartbeats 1000000
set_option maxRecDepth 100000

structure Ch where
  at_ : Int
  v : Value
  data : List UInt8
instance : Inhabited Ch := ⟨⟨0, .slice none 0 0, []⟩⟩
abbrev tChg : TypeId := 169
abbrev tChgs : TypeId := 93
def Ch.cells (c : Ch) : List Value := [.int .i64 c.at_, c.v]
theorem Ch.cells_len (c : Ch) : c.cells.length = 2 := rfl
def RdC (c : Addr → Option Value) (v : Value) (cs : List Ch) : Prop := Rd c 2 v cs.length (cs.flatMap Ch.cells) ∧ ∀ x ∈ cs, RdB c x.v x.data
abbrev En := Int × List UInt8
def conC (cs : List Ch) : List En := cs.map fun x => (x.at_, x.data)
def SzC (cs : List Ch) : Prop := cs.length ≤ 1000 ∧ ∀ x ∈ cs, x.data.length ≤ 10000
theorem RdC.le {R R' : Snap} {v : Value} {cs : List Ch} (h : RdC R.cell? v cs) (l : R.le R') : RdC R'.cell? v cs := ⟨Rd.le h.1 l, fun q hq => Rd.le (h.2 q hq) l⟩
theorem RdC.world {w : World} {R : Snap} {L : Asrt} {v : Value} {cs : List Ch} (h : RdC R.cell? v cs) (H : Holds w R L) : RdC w.cell? v cs := ⟨Rd.world h.1 H, fun q hq => Rd.world (h.2 q hq) H⟩
theorem RdC.form {c : Addr → Option Value} {v : Value} {cs : List Ch} (h : RdC c v cs) : ∃ a cap, v = .slice a cs.length cap := Rd.form h.1
theorem RdC.at {c : Addr → Option Value} {a : Option Addr} {n cap : Nat} {cs : List Ch} (h : RdC c (.slice a n cap) cs) {j : Nat} (hj : j < cs.length) :
    ∃ b o, a = some ⟨b, o, none⟩ ∧ c ⟨b, o + j * 2, none⟩ = some (.int .i64 cs[j].at_) ∧ c ⟨b, o + j * 2 + 1, none⟩ = some cs[j].v ∧ RdB c cs[j].v cs[j].data := by
  obtain ⟨h1, h2⟩ := h
  obtain ⟨b, o, rfl, hx⟩ := rd_elt (f := Ch.cells) Ch.cells_len h1 (by decide) hj
  exact ⟨b, o, rfl, hx 0 _ (by omega) rfl, hx 1 _ (by omega) rfl, h2 _ (List.getElem_mem hj)⟩
theorem conC_len (cs : List Ch) : (conC cs).length = cs.length := by simp [conC]
theorem conC_get {cs : List Ch} {j : Nat} (h : j < cs.length) : (conC cs)[j]? = some (cs[j].at_, cs[j].data) := by
  simp [conC, h]

def placeC (a : Int) : Bool := decide (a = 0) || (decide (34 ≤ a) && decide (a ≤ 511))
def formC (d : List UInt8) : Bool := decide (d.length = 0) || decide (d.length = 64)
def sizeC (l : List En) : Nat := 2 + (l.map fun c => 3 + c.2.length).sum
def entC (c : En) : List UInt8 := nb 2 c.1 ++ (nb 1 (min c.2.length 1 : Nat) ++ c.2)
def textC (l : List En) : List UInt8 := nb 2 (l.length : Nat) ++ l.flatMap entC
theorem entC_len (c : En) : (entC c).length = 3 + c.2.length := by simp [entC, nb_length, wid_1, wid_2]; omega
theorem textC_len (l : List En) : (textC l).length = sizeC l := by
  rw [textC, sizeC, List.length_append, nb_length, wid_2]
  congr 1
  induction l with
  | nil => rfl
  | cons c l ih => rw [List.flatMap_cons, List.length_append, entC_len, List.map_cons, List.sum_cons, ih]
def checkC (l : List En) : Int :=
  if l.all (fun c => placeC c.1) = true then (if (l.map Prod.fst).Nodup then (if l.all (fun c => formC c.2) = true then (if sizeC l ≤ 1856 then 0 else 11) else 3) else 5) else 2
theorem checkC_ok {l : List En} (h : checkC l = 0) : l.all (fun c => placeC c.1) = true ∧ (l.map Prod.fst).Nodup ∧ l.all (fun c => formC c.2) = true ∧ sizeC l ≤ 1856 := by
  unfold checkC at h
  split at h
  · split at h
    · split at h
      · split at h
        · exact ⟨by assumption, by assumption, by assumption, by assumption⟩
        · cases h
      · cases h
    · cases h
  · cases h
theorem sizeC_take {l : List En} {j : Nat} (h : j < l.length) : sizeC (l.take (j + 1)) = sizeC (l.take j) + (3 + l[j].2.length) := by
  rw [List.take_succ_eq_append_getElem h, sizeC, sizeC, List.map_append, List.sum_append]
  simp; omega
theorem sizeC_le (cs : List Ch) (h : SzC cs) (j : Nat) : sizeC ((conC cs).take j) ≤ 2 + 10003 * cs.length := by
  obtain ⟨h1, h2⟩ := h
  have : ∀ l : List En, (∀ x ∈ l, x.2.length ≤ 10000) → (l.map fun c => 3 + c.2.length).sum ≤ 10003 * l.length := by
    intro l hl
    induction l with
    | nil => simp
    | cons c l ih =>
      have h3 := hl c List.mem_cons_self
      have h4 := ih fun x hx => hl x (List.mem_cons_of_mem _ hx)
      rw [List.map_cons, List.sum_cons, List.length_cons]; omega
  have h3 := this ((conC cs).take j) (fun x hx => by
    have h4 := List.mem_of_mem_take hx
    unfold conC at h4
    obtain ⟨y, hy, rfl⟩ := List.mem_map.1 h4
    exact h2 y hy)
  have h4 : ((conC cs).take j).length ≤ cs.length := by rw [List.length_take, conC_len]; omega
  unfold sizeC
  have : 10003 * ((conC cs).take j).length ≤ 10003 * cs.length := Nat.mul_le_mul_left _ h4
  omega
/-- How many different ones there are. -/
def dc : List Int → Nat
  | [] => 0
  | x :: l => if x ∈ l then dc l else dc l + 1
theorem dc_le : ∀ l : List Int, dc l ≤ l.length
  | [] => Nat.le_refl _
  | x :: l => by
    have := dc_le l
    unfold dc
    split <;> simp <;> omega
theorem dc_eq : ∀ l : List Int, dc l = l.length ↔ l.Nodup
  | [] => by simp [dc]
  | x :: l => by
    have h1 := dc_le l
    have h2 := dc_eq l
    rw [List.nodup_cons, dc, List.length_cons]
    split
    · rename_i h
      constructor
      · intro h3; omega
      · intro h3; exact absurd h h3.1
    · rename_i h
      constructor
      · intro h3; exact ⟨h, h2.1 (by omega)⟩
      · intro h3; rw [h2.2 h3.2]
end Sh
/- entry.place, size, Most, Check. -/
set_option linter.unusedVariables false
set_option linter.unusedSimpArgs false
namespace Sh
open Go Go.RowKit Go.Proofs
attribute [local go_sem ↓] Go.wp_at_zero Go.wp_at_succ
set_option maxHeartbeats 1000000
set_option maxRecDepth 100000

/-! ### A map of whole numbers that is owned -/
abbrev tIntM : TypeId := 3
abbrev tMapM : TypeId := 176
theorem undMapM : Try.prog.underlying tMapM = some (.map tIntM tIntM) := Try.underlying176
theorem lawM : Maps.Keyed Try.prog tIntM := Maps.int_keyed Try.underlying3
theorem zeroM (w : World) : (zeroValue tIntM).run Try.prog w = .ok (.int .i64 0) w := by kernel_rfl
noncomputable abbrev ElM : Value → Option (DataW Unit × List MemPlace) := plainElem Try.prog tIntM
def mapA (b n : Nat) (D : DataW Unit) : Asrt where
  on h F := (∃ es clock, h b = some (.map es clock) ∧ WideElems.Fit Try.prog tIntM ElM es clock ∧ es.size ≤ n ∧ D = .map ((es.toList.map (WideElems.rg Try.prog tIntM ElM)).foldr DataW.insert [])) ∧ ∀ i, F i ↔ i = b
  loc := fun ⟨⟨es, c, a, r⟩, e⟩ k => ⟨⟨es, c, (k b ((e b).2 rfl)).trans a, r⟩, e⟩
  bd := fun ⟨⟨es, c, a, r⟩, e⟩ i hi => by rw [(e i).1 hi, a]; rfl
theorem Holds.ownsM {w : World} {R : Snap} {L : Asrt} {b n : Nat} {D : DataW Unit} (H : Holds w R (star (mapA b n D) L)) : w.ownsMap Try.prog tIntM ElM b n D := by
  obtain ⟨F, ⟨⟨es, c, a, r⟩, e⟩, _⟩ := H.upd
  exact ⟨es, c, a, r⟩
theorem Holds.updM {w w' : World} {R : Snap} {L : Asrt} {b n n' : Nat} {D D' : DataW Unit} (H : Holds w R (star (mapA b n D) L)) (ho : w'.ownsMap Try.prog tIntM ElM b n' D') (hg : w.grownBy w' (some b)) : Holds w' R (star (mapA b n' D') L) := by
  obtain ⟨F, ⟨_, e⟩, k⟩ := H.upd
  obtain ⟨es, c, a, r⟩ := ho
  exact k w' _ F ⟨⟨es, c, a, r⟩, e⟩ hg.os hg.tape hg.output (fun i hi hn => hg.block i hi (fun h => hn ((e i).2 (Option.some.inj h)))) (fun i hi => .inl hi)
theorem Holds.makeM {w : World} {R : Snap} {L : Asrt} (H : Holds w R L) : Holds (w.alloc (.map #[] 0)) R (star (mapA w.heap.size 0 (.map [])) L) := by
  obtain ⟨es, c, a, r⟩ := World.ownsMap_made w Try.prog tIntM ElM
  exact H.fresh (A := mapA w.heap.size 0 (.map [])) (F' := (· = w.heap.size)) ((Below.refl _ _).alloc (Nat.le_refl _) _) ⟨⟨es, c, a, r⟩, fun _ => Iff.rfl⟩ (fun i hi => Nat.le_of_eq (Eq.symm hi))
/-- What the map's keys are: just those of a list. -/
def KeysM (D : DataW Unit) (l : List Int) : Prop := Maps.Tidy D ∧ (∀ x, Maps.has D (.int .i64 x) = decide (x ∈ l)) ∧ Maps.size D = dc l
theorem KeysM.nil : KeysM (.map []) [] := ⟨Maps.tidy_empty, fun x => rfl, rfl⟩
theorem KeysM.put {D : DataW Unit} {l : List Int} (h : KeysM D l) (x : Int) (d : DataW Unit) : KeysM (D.put (.int .i64 x) d) (x :: l) := by
  obtain ⟨h1, h2, h3⟩ := h
  refine ⟨h1.put (show WideAt.IsKeyLit (.int .i64 x) from trivial) d, fun y => ?_, ?_⟩
  · by_cases hy : y = x
    · subst hy
      rw [Maps.has_put_same h1.isMap (show WideAt.IsKeyLit (.int .i64 y) from trivial)]
      simp
    · rw [Maps.has_put_other (fun h => hy (by injection h)), h2]
      simp [hy]
  · rw [Maps.size_put h1, h2, h3, dc]
    by_cases hx : x ∈ l <;> simp [hx]

theorem place_spec (a : Int) (w : World) : Calls Try.prog 145 #[.int .i64 a] w fun e w' => e = .returned (.bool (placeC a)) ∧ w = w' := by
  by_cases h0 : a = 0
  · subst h0
    go_enter Try.func145, Try.ntmps145
    go_wp2_with fail
    go_ret
    exact ⟨rfl, rfl⟩
  · have t0 : (a == 0) = false := by rw [beq_eq_false_iff_ne]; exact h0
    have HA : Hid (placeC a = (decide (34 ≤ a) && decide (a ≤ 511))) := Hid.mk' (by simp [placeC, h0])
    by_cases h1 : 34 ≤ a
    · have t1 : decide (34 ≤ a) = true := by simpa using h1
      by_cases h2 : a < 512
      · have t2 : decide (a < 512) = true := by simpa using h2
        go_enter Try.func145, Try.ntmps145
        go_wp2_with fail
        go_ret
        exact ⟨ret_bool (by rw [HA.out, t1, decide_eq_true (by omega)]; rfl), rfl⟩
      · have t2 : decide (a < 512) = false := by simp; omega
        go_enter Try.func145, Try.ntmps145
        go_wp2_with fail
        go_ret
        exact ⟨ret_bool (by rw [HA.out, t1, decide_eq_false (by omega)]; rfl), rfl⟩
    · have t1 : decide (34 ≤ a) = false := by simp; omega
      go_enter Try.func145, Try.ntmps145
      go_wp2_with fail
      go_ret
      exact ⟨ret_bool (by rw [HA.out, t1]; rfl), rfl⟩
theorem most_spec (w : World) : Calls Try.prog 139 #[] w fun e w' => e = .returned (.int .i64 32) ∧ w = w' := by
  go_enter Try.func139, Try.ntmps139
  go_wp2_with fail
  go_ret
  exact ⟨rfl, rfl⟩
theorem esize_spec {w : World} {R : Snap} {L : Asrt} {v : Value} {cs : List Ch} (H : Holds w R L) (hr : RdC R.cell? v cs) (hz : SzC cs) :
    Calls Try.prog 146 #[v] w fun e w' => e = .returned (.int .i64 (sizeC (conC cs) : Nat)) ∧ Holds w' R L := by
  obtain ⟨a, c, rfl⟩ := hr.form
  obtain ⟨n, hn⟩ : ∃ n, n = cs.length := ⟨_, rfl⟩
  have HR := Hid.mk' hr
  have HN := Hid.mk' hn
  have HZ := Hid.mk' hz
  have hn9 : n ≤ 1000 := by rw [hn]; exact hz.1
  obtain ⟨S, hS⟩ : ∃ S : Nat → Nat, S = fun j => sizeC ((conC cs).take j) := ⟨_, rfl⟩
  have HS9 : Hid (∀ j, S j ≤ 10010000) := Hid.mk' (fun j => by
    have h1 := sizeC_le cs hz j
    have h2 := hz.1
    rw [hS]; show sizeC ((conC cs).take j) ≤ _
    omega)
  have HSS : Hid (∀ j (h : j < cs.length), S (j + 1) = S j + (3 + cs[j].data.length)) := Hid.mk' (fun j h => by
    rw [hS]; show sizeC ((conC cs).take (j + 1)) = _
    rw [sizeC_take (by rw [conC_len]; exact h)]
    simp [conC])
  have HS0 : Hid (S 0 = 2) := Hid.mk' (by rw [hS]; rfl)
  have HSN : Hid (S n = sizeC (conC cs)) := Hid.mk' (by rw [hS, hn, ← conC_len]; show sizeC ((conC cs).take _) = _; rw [List.take_length])
  rw [← HSN.out, ← hn]
  clear hr hn hz hS
  go_enter Try.func146, Try.ntmps146
  go_wp2_with fail
  go_loopw [3, 8] (fun s i wx => ∃ (j k : Nat), i = .int .i64 j ∧ j ≤ n ∧ s = .int .i64 (k : Int) ∧ k = S j ∧ Holds wx R L) (fun _ i _ => n - (intOf i).toNat)
  case atStart => exact ⟨0, 2, rfl, Nat.zero_le _, rfl, HS0.out.symm, H⟩
  case round =>
    clear H
    obtain ⟨j, k, rfl, hj, rfl, hk, H3⟩ := hrel
    by_cases hlt : j < n
    · have d1 : decide ((j : Int) < (n : Int)) = true := by simp; omega
      have hjs : j < cs.length := by rw [← HN.out]; exact hlt
      obtain ⟨b2, o2, rfl, hc0, hc1, hq⟩ := RdC.at HR.out hjs
      have hss := HSS.out j hjs
      have h9 := HS9.out (j + 1)
      have hd := HZ.out.2 _ (List.getElem_mem hjs)
      generalize cs[j] = x at *
      obtain ⟨xa, xv, xd⟩ := x
      simp only at hc0 hc1 hq hss hd
      obtain ⟨ax, cx, rfl⟩ := hq.form
      obtain ⟨l, hl⟩ : ∃ l, l = xd.length := ⟨_, rfl⟩
      rw [← hl] at hc1 hss hd
      replace hc0 := H3.cell hc0
      replace hc1 := H3.cell hc1
      have i1 : (0 : Int) ≤ (j : Int) := by omega
      have i2 : (j : Int) < (n : Int) := by omega
      obtain ⟨k2, hk2⟩ : ∃ k2, k2 = S (j + 1) := ⟨_, rfl⟩
      have e1 : (k : Int) + (3 + (l : Int)) = (k2 : Int) := by omega
      have HK2 := Hid.mk' hk2
      rw [← hk2] at h9
      have H4 := H3.garbage (.cells #[.int .i64 xa, .slice ax l cx] tChg)
      clear hq hss hl hk2 hk
      go_wp2_with fail
      go_roundw
      case rel => exact ⟨j + 1, k2, by go_num, hlt, rfl, HK2.out, H4⟩
      case measure => simp [intOf]; omega
    · have d1 : decide ((j : Int) < (n : Int)) = false := by simp; omega
      obtain rfl : j = n := by omega
      have HK := Hid.mk' hk
      clear hk
      go_wp2_with fail
      go_ret
      exact ⟨by rw [← HK.out]; rfl, H3⟩

theorem stop_any {p : Prop} (h : Hold p) : p := h
theorem all_take_step {α : Type} {p : α → Bool} {l : List α} {j : Nat} (h : j < l.length) (ha : (l.take j).all p = true) (hx : p l[j] = true) : (l.take (j + 1)).all p = true := by
  rw [List.take_succ_eq_append_getElem h, List.all_append, ha]; simp [hx]
theorem all_not {α : Type} {p : α → Bool} {l : List α} {j : Nat} (h : j < l.length) (hx : p l[j] = false) : l.all p = false := by
  rw [List.all_eq_false]
  exact ⟨l[j], List.getElem_mem h, by rw [hx]; decide⟩
set_option maxHeartbeats 4000000
theorem check_spec {w : World} {R : Snap} {L : Asrt} {v : Value} {cs : List Ch} (H : Holds w R L) (hr : RdC R.cell? v cs) (hz : SzC cs) :
    Calls Try.prog 65 #[v] w fun e w' => e = .returned (.int .i64 (checkC (conC cs))) ∧ Holds w' R L := by
  obtain ⟨a, c, rfl⟩ := hr.form
  obtain ⟨n, hn⟩ : ∃ n, n = cs.length := ⟨_, rfl⟩
  obtain ⟨K, hK⟩ : ∃ K, K = checkC (conC cs) := ⟨_, rfl⟩
  obtain ⟨E, hE⟩ : ∃ E, E = conC cs := ⟨_, rfl⟩
  have HR := Hid.mk' hr
  have HN := Hid.mk' hn
  have HZ := Hid.mk' hz
  have HE := Hid.mk' hE
  have hn9 : n ≤ 1000 := by rw [hn]; exact hz.1
  have HEL : Hid (E.length = n) := Hid.mk' (by rw [hE, conC_len, hn])
  have HEG : Hid (∀ j (h : j < cs.length) (h2 : j < E.length), E[j] = (cs[j].at_, cs[j].data)) := Hid.mk' (fun j h h2 => by
    have := conC_get h
    rw [← hE, List.getElem?_eq_getElem h2] at this
    exact Option.some.inj this)
  rw [← hK]
  rw [← hE] at hK
  have HK := Hid.mk' hK
  rw [← hn]
  clear hr hn hz hE hK
  have hmm := @run_makeMap Try.prog
  go_enter Try.func65, Try.ntmps65
  go_upto_region 2 with fail
  have H1 := H.makeM
  generalize (World.alloc ..) = w1 at H1 ⊢
  generalize w.heap.size = b at H1 ⊢
  clear H hmm
  go_wp2_with fail
  go_loopw [11] (fun i wx => ∃ (j : Nat) (D : DataW Unit), i = .int .i64 j ∧ j ≤ n ∧ Hid ((E.take j).all (fun c => placeC c.1) = true) ∧ Hid (KeysM D ((E.take j).map Prod.fst).reverse) ∧ Holds wx R (star (mapA b j D) L)) (fun i _ => n - (intOf i).toNat)
  case atStart => exact ⟨0, _, rfl, Nat.zero_le _, Hid.mk' rfl, Hid.mk' KeysM.nil, H1⟩
  case round =>
    clear H1
    obtain ⟨j, D, rfl, hj, hA, hD, H3⟩ := hrel
    by_cases hlt : j < n
    · have d1 : decide ((j : Int) < (n : Int)) = true := by simp; omega
      have hjs : j < cs.length := by rw [← HN.out]; exact hlt
      have hjE : j < E.length := by rw [HEL.out]; exact hlt
      obtain ⟨b2, o2, rfl, hc0, hc1, hq⟩ := RdC.at HR.out hjs
      have he := HEG.out j hjs hjE
      have HJE := Hid.mk' hjE
      generalize cs[j] = x at *
      obtain ⟨xa, xv, xd⟩ := x
      simp only at hc0 hc1 hq he
      obtain ⟨ax, cx, rfl⟩ := hq.form
      obtain ⟨l, hl⟩ : ∃ l, l = xd.length := ⟨_, rfl⟩
      rw [← hl] at hc1
      replace hc0 := H3.cell hc0
      replace hc1 := H3.cell hc1
      have i1 : (0 : Int) ≤ (j : Int) := by omega
      have i2 : (j : Int) < (n : Int) := by omega
      have HE2 : Hid (∀ h : j < E.length, E[j] = (xa, xd)) := Hid.mk' (fun _ => he)
      have H4 := H3.garbage (.cells #[.int .i64 xa, .slice ax l cx] tChg)
      clear hq hl hjE he hjs
      go_wp2_with fail
      refine (place_spec xa _).mono ?_
      rintro e w5 ⟨rfl, rfl⟩
      cases hp : placeC xa with
      | false =>
        have HKK : Hid (K = 2) := Hid.mk' (by rw [HK.out, checkC, all_not HJE.out (by rw [HE2.out]; exact hp)]; rfl)
        clear hp
        go_wp2_with fail
        go_ret
        exact ⟨by rw [HKK.out]; rfl, H4.drop⟩
      | true =>
        have HP := Hid.mk' hp
        have hwf : (Lit.int .i64 xa).wf = true := by
          simp [placeC] at hp
          show (decide _ && decide _) = true
          simp [IntKind.min, IntKind.max, IntKind.signed, IntKind.bits]
          omega
        have HWF := Hid.mk' hwf
        have hown := H4.ownsM
        clear hp hwf
        go_wp2_with (first | (at_lookup; refine wpList_lookup_own_int _ rfl _ _ tMapM rfl tIntM tIntM .i64 lawM undMapM Try.underlying3 (zeroM _) b j _ rfl hown _ _ rfl (Maps.keyOf_int_mk Try.underlying3 HWF.out) ?_; intro c hat hwc) | (at_mapUpdate; refine wpList_mapUpdate_own _ rfl _ _ _ tMapM rfl tIntM tIntM lawM undMapM ElM b j _ rfl hown (by unfold maxLen; omega) _ _ _ rfl rfl (Maps.keyOf_int_mk Try.underlying3 HWF.out) _ [] (plainElem_int Try.underlying3 (wrap64_wf _)) ?_; intro w7 hown7 hgrow7))
        have H5 := H4.updM hown7 hgrow7
        clear hown hown7 hgrow7 H4 hat hwc hc0 hc1
        go_wp2_with fail
        go_roundw
        case rel =>
          refine ⟨j + 1, _, by go_num, hlt, Hid.mk' (all_take_step HJE.out hA.out (by rw [HE2.out]; exact HP.out)), Hid.mk' ?_, H5⟩
          rw [List.take_succ_eq_append_getElem HJE.out, List.map_append, List.reverse_append, HE2.out]
          exact hD.out.put xa _
        case measure => simp [intOf]; omega
    · have d1 : decide ((j : Int) < (n : Int)) = false := by simp; omega
      obtain rfl : j = n := by omega
      have hA' : E.all (fun c => placeC c.1) = true := by have := hA.out; rwa [List.take_of_length_le (by rw [HEL.out]; exact Nat.le_refl _)] at this
      have hD' := hD.out
      rw [List.take_of_length_le (by rw [HEL.out]; exact Nat.le_refl _)] at hD'
      have HA := Hid.mk' hA'
      obtain ⟨s, hs⟩ : ∃ s, s = Maps.size D := ⟨_, rfl⟩
      have hs2 : s = dc (E.map Prod.fst).reverse := by rw [hs, hD'.2.2]
      have hsl := dc_le (E.map Prod.fst).reverse
      rw [← hs2, List.length_reverse, List.length_map, HEL.out] at hsl
      have HS : Hid (s = j ↔ (E.map Prod.fst).Nodup) := Hid.mk' (by
        have h := dc_eq (E.map Prod.fst).reverse
        rw [← hs2, List.length_reverse, List.length_map, HEL.out] at h
        exact h.trans (List.reverse_perm _).nodup_iff)
      have hown := H3.ownsM
      clear hA hA' hD hD' hs2
      go_upto_region 9 with fail
      go_wp2_with (at_len; refine wpList_len_own _ rfl _ tMapM rfl tIntM tIntM undMapM ElM b j D rfl hown ?_; refine stop_any ?_)
      refine Hold.go ?_
      clear hown
      have HSD := Hid.mk' hs
      clear hs
      have H4 := H3.drop
      clear H3
      by_cases hsj : s = j
      · have t1 : (((Maps.size D : Nat) : Int) != (j : Int)) = false := by rw [← HSD.out]; simp; omega
        have HND := Hid.mk' (HS.out.1 hsj)
        clear hsj
        go_wp2_with fail
        go_loopw [32] (fun i wx => ∃ (k : Nat), i = .int .i64 k ∧ k ≤ j ∧ Hid ((E.take k).all (fun c => formC c.2) = true) ∧ Holds wx R L) (fun i _ => j - (intOf i).toNat)
        case atStart => exact ⟨0, rfl, Nat.zero_le _, Hid.mk' rfl, H4⟩
        case round =>
          clear H4
          obtain ⟨k, rfl, hk, hF, H5⟩ := hrel
          by_cases hlt : k < j
          · have d2 : decide ((k : Int) < (j : Int)) = true := by simp; omega
            have hjs : k < cs.length := by rw [← HN.out]; exact hlt
            have hjE : k < E.length := by rw [HEL.out]; exact hlt
            obtain ⟨b2, o2, rfl, hc0, hc1, hq⟩ := RdC.at HR.out hjs
            have he := HEG.out k hjs hjE
            have HJE := Hid.mk' hjE
            generalize cs[k] = x at *
            obtain ⟨xa, xv, xd⟩ := x
            simp only at hc0 hc1 hq he
            obtain ⟨ax, cx, rfl⟩ := hq.form
            obtain ⟨l, hl⟩ : ∃ l, l = xd.length := ⟨_, rfl⟩
            rw [← hl] at hc1
            replace hc0 := H5.cell hc0
            replace hc1 := H5.cell hc1
            have i1 : (0 : Int) ≤ (k : Int) := by omega
            have i2 : (k : Int) < (j : Int) := by omega
            have HE2 : Hid (∀ h : k < E.length, E[k] = (xa, xd)) := Hid.mk' (fun _ => he)
            have HL := Hid.mk' hl
            have hlm := Rd.max hq
            rw [← hl] at hlm
            unfold maxLen at hlm
            have H6 := H5.garbage (.cells #[.int .i64 xa, .slice ax l cx] tChg)
            clear hq hl hjE he hjs
            by_cases h0 : l = 0
            · have t2 : ((l : Int) != 0) = false := by simp; omega
              have HFX : Hid (formC xd = true) := Hid.mk' (by simp [formC, ← HL.out, h0])
              clear h0
              go_wp2_with fail
              go_roundw
              case rel => exact ⟨k + 1, by go_num, hlt, Hid.mk' (all_take_step HJE.out hF.out (by rw [HE2.out]; exact HFX.out)), H6⟩
              case measure => simp [intOf]; omega
            · have t2 : ((l : Int) != 0) = true := by simp; omega
              by_cases h64 : l = 64
              · have t3 : ((l : Int) != 64) = false := by simp; omega
                have HFX : Hid (formC xd = true) := Hid.mk' (by simp [formC, ← HL.out, h64])
                have H64 := Hid.mk' h64
                clear h0 h64
                go_wp2_with fail
                go_roundw
                case rel => exact ⟨k + 1, by go_num, hlt, Hid.mk' (all_take_step HJE.out hF.out (by rw [HE2.out]; exact HFX.out)), H6⟩
                case measure => simp [intOf]; omega
              · have t3 : ((l : Int) != 64) = true := by simp; omega
                have HKK : Hid (K = 3) := Hid.mk' (by
                  rw [HK.out, checkC, if_pos HA.out, if_pos HND.out, all_not HJE.out (by rw [HE2.out]; simp [formC, ← HL.out, h0, h64])]; rfl)
                have HX := Hid.mk' (And.intro h0 h64)
                clear h0 h64
                go_wp2_with fail
                go_ret
                exact ⟨by rw [HKK.out]; rfl, H6⟩
          · have d2 : decide ((k : Int) < (j : Int)) = false := by simp; omega
            obtain rfl : k = j := by omega
            have hF' : E.all (fun c => formC c.2) = true := by have := hF.out; rwa [List.take_of_length_le (by rw [HEL.out]; exact Nat.le_refl _)] at this
            have HF := Hid.mk' hF'
            clear hF hF'
            go_wp2_with fail
            refine (esize_spec H5 (by have h := HR.out; rw [← HN.out] at h; exact h) HZ.out).mono ?_
            rintro e w6 ⟨rfl, H6⟩
            rw [← HE.out]
            have hs9 := sizeC_le cs HZ.out k
            rw [← HE.out, List.take_of_length_le (by rw [HEL.out]; exact Nat.le_refl _)] at hs9
            have hz1 := HZ.out.1
            obtain ⟨z, hz⟩ : ∃ z, z = sizeC E := ⟨_, rfl⟩
            rw [← hz] at hs9 ⊢
            have HSZ := Hid.mk' hz
            clear hz
            by_cases hzz : 1856 < z
            · have t4 : decide ((1856 : Int) < (z : Int)) = true := by simp; omega
              have t4n : decide (1856 < z) = true := by simp; omega
              have HKK : Hid (K = 11) := Hid.mk' (by
                rw [HK.out, checkC, if_pos HA.out, if_pos HND.out, if_pos HF.out, if_neg (by rw [← HSZ.out]; omega)])
              clear hzz
              go_wp2_with fail
              refine (most_spec _).mono ?_
              rintro e w7 ⟨rfl, rfl⟩
              go_wp2_with fail
              go_ret
              exact ⟨by rw [HKK.out]; rfl, H6⟩
            · have t4 : decide ((1856 : Int) < (z : Int)) = false := by simp; omega
              have t4n : decide (1856 < z) = false := by simp; omega
              have HKK : Hid (K = 0) := Hid.mk' (by
                rw [HK.out, checkC, if_pos HA.out, if_pos HND.out, if_pos HF.out, if_pos (by rw [← HSZ.out]; omega)])
              clear hzz
              go_wp2_with fail
              refine (most_spec _).mono ?_
              rintro e w7 ⟨rfl, rfl⟩
              go_wp2_with fail
              go_ret
              exact ⟨by rw [HKK.out]; rfl, H6⟩
      · have t1 : (((Maps.size D : Nat) : Int) != (j : Int)) = true := by rw [← HSD.out]; simp; omega
        have HKK : Hid (K = 5) := Hid.mk' (by rw [HK.out, checkC, if_pos HA.out, if_neg (fun h => hsj (HS.out.2 h))])
        have HX := Hid.mk' hsj
        clear hsj
        go_wp2_with fail
        go_ret
        exact ⟨by rw [HKK.out]; rfl, H4⟩
end Sh
/- msg.Size. -/
set_option linter.unusedVariables false
set_option linter.unusedSimpArgs false
namespace Sh
open Go Go.RowKit Go.Proofs
attribute [local go_sem ↓] Go.wp_at_zero Go.wp_at_succ
set_option maxHeartbeats 1000000
set_option maxRecDepth 100000

theorem tx_len (l : List UInt8) : (tx l).length ≤ 256 := by
  rw [tx, List.length_append, nb_length, wid_1, List.length_take]; omega
theorem body_len {m : Ms} (h : msgOk m = true) : (bodyB m).length ≤ 100000 := by
  simp only [msgOk, Bool.and_eq_true, decide_eq_true_eq, Bool.or_eq_true] at h
  obtain ⟨⟨⟨⟨⟨⟨⟨⟨⟨⟨k1, k2⟩, k3⟩, k4⟩, k5⟩, k6⟩, k7⟩, k8⟩, k9⟩, k10⟩, k11⟩ := h
  have f10 := inAll_mem k8 (x := (m.who.length : Int)) (by simp)
  have a1 : (m.who.flatMap (nb 4)).length = m.who.length * 4 := flatB_len (k := 4) (fun x => by rw [nb_length, wid_4]) _
  have a2 := txs_len k10 m.names.length
  rw [List.take_length] at a2
  have a3 := tx_len m.data
  have a4 : (txS m.name).length ≤ 256 := tx_len _
  unfold bodyB bodyS
  simp only [List.length_append, nb_length, wid_1, wid_2, wid_4, List.length_nil, a1]
  omega
theorem msize_spec {w : World} {R : Snap} {L : Asrt} (m : Ms) (H : Holds w R L) (hm : m.Rd R.cell?) (hz : m.Sz) :
    Calls Try.prog 55 #[.agg m.cells.toArray] w fun e w' => e = .returned (.int .i64 ((if msgOk m = true then (putM m).length else 0 : Nat) : Int)) ∧ Holds w' R L := by
  have HM := Hid.mk' hm
  have HZ := Hid.mk' hz
  have hlen : msgOk m = true → (bodyB m).length ≤ 100000 := fun h => body_len h
  have HL := Hid.mk' hlen
  obtain ⟨ok, hok⟩ : ∃ ok, ok = msgOk m := ⟨_, rfl⟩
  have HOK := Hid.mk' hok
  rw [← hok]
  obtain ⟨sz, hsz⟩ : ∃ sz, sz = (if ok = true then (putM m).length else 0) := ⟨_, rfl⟩
  rw [← hsz]
  have HSZ := Hid.mk' hsz
  have HSP := Hid.mk' (show ok = true → sz = (bodyB m).length + 4 from fun h => by rw [hsz, if_pos h, putM, sealB_len])
  obtain ⟨kind, from_, to_, ballot, name, attempt, epoch, mark, size, what, vw, vn, vd, who, names, data⟩ := m
  obtain ⟨hw, hn, hd⟩ := hm
  obtain ⟨z1, z2, z3, z4, z5⟩ := hz
  simp only at z1 z2 z3 z4 z5 hw hn hd
  obtain ⟨aw, cw, rfl⟩ := hw.form
  obtain ⟨an, cn, rfl⟩ := hn.form
  obtain ⟨ad, cd, rfl⟩ := hd.form
  obtain ⟨R1, le1, H1, hb⟩ := H.allocR (.cells #[.int .i64 kind, .int .i64 from_, .int .i64 to_, .int .i64 ballot, .string name, .int .i64 attempt, .int .i64 epoch, .int .i64 mark, .int .i64 size, .int .i64 what, .slice aw who.length cw, .slice an names.length cn, .slice ad data.length cd] tMsg (0, 0))
  clear hw hn hd hok hsz hlen H
  obtain ⟨l1, n1, c1⟩ := Holds.frzFacts (H1) hb
  show Calls _ _ #[.agg #[.int .i64 kind, .int .i64 from_, .int .i64 to_, .int .i64 ballot, .string name, .int .i64 attempt, .int .i64 epoch, .int .i64 mark, .int .i64 size, .int .i64 what, .slice aw who.length cw, .slice an names.length cn, .slice ad data.length cd]] _ _
  go_enter Try.func55, Try.ntmps55
  go_wp2_with fail
  refine (right25_spec (⟨kind, from_, to_, ballot, name, attempt, epoch, mark, size, what, .slice aw who.length cw, .slice an names.length cn, .slice ad data.length cd, who, names, data⟩ : Ms) H1 (fun w' h => (HM.out.le le1).world h) HZ.out).mono ?_
  rintro e w2 ⟨rfl, H2⟩
  rw [← HOK.out]
  clear H1 l1 n1 c1
  obtain ⟨l2, n2, c2⟩ := Holds.frzFacts (H2) hb
  cases ok
  · go_wp2_with fail
    go_ret
    exact ⟨by rw [HSZ.out]; rfl, H2.weaken le1⟩
  · go_wp2_with fail
    refine (mput_nil (⟨kind, from_, to_, ballot, name, attempt, epoch, mark, size, what, .slice aw who.length cw, .slice an names.length cn, .slice ad data.length cd, who, names, data⟩ : Ms) H2 (HM.out.le le1) HZ.out HOK.out.symm).mono ?_
    rintro e w3 ⟨o, rfl, H3⟩
    obtain ⟨a, c, rfl⟩ := H3.rowRd.form
    have hl := HL.out HOK.out.symm
    have hsz : sz = (bodyB (⟨kind, from_, to_, ballot, name, attempt, epoch, mark, size, what, .slice aw who.length cw, .slice an names.length cn, .slice ad data.length cd, who, names, data⟩ : Ms)).length + 4 := HSP.out (by first | trivial | rfl)
    generalize (bodyB (⟨kind, from_, to_, ballot, name, attempt, epoch, mark, size, what, .slice aw who.length cw, .slice an names.length cn, .slice ad data.length cd, who, names, data⟩ : Ms)).length = n at *
    have hw : IntKind.i64.wrap ((n : Int) + 4) = (n : Int) + 4 := IntWalk.i64_in _ (by omega)
    go_wp2_with fail
    go_ret
    exact ⟨by rw [hsz]; push_cast; rfl, (H3.drop).weaken le1⟩
end Sh
