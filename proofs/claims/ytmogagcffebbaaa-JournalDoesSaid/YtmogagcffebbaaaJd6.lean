/- MsgPut Chg Disk DiskNew DiskWrite DiskRead DiskImage: joined texts, each with its own sentence below. -/
import Derived.Test.YtmogagcffebbaaaJd5
import Derived.Test.YtmogagcffebbaaaJd2
import Derived.Test.YtmogagcffebbaaaJd3
/- msg.Put. -/
set_option linter.unusedVariables false
set_option linter.unusedSimpArgs false
namespace Sh
open Go Go.RowKit Go.Proofs
attribute [local go_sem ↓] Go.wp_at_zero Go.wp_at_succ
set_option maxHeartbeats 1000000
set_option maxRecDepth 100000

theorem flatB_len {α : Type} {f : α → List UInt8} {k : Nat} (h : ∀ x, (f x).length = k) : ∀ l : List α, (l.flatMap f).length = l.length * k
  | [] => by simp
  | x :: l => by rw [List.flatMap_cons, List.length_append, h, flatB_len h l, List.length_cons, Nat.succ_mul]; omega
theorem txs_len {l : List ByteArray} (h : l.all nameOk = true) (j : Nat) : ((l.take j).flatMap txS).length ≤ 17 * j := by
  have key : ∀ (l : List ByteArray), (∀ s ∈ l, s.size ≤ 16) → (l.flatMap txS).length ≤ 17 * l.length := by
    intro l
    induction l with
    | nil => intro _; simp
    | cons x l ih =>
      intro hx
      have h1 := ih fun s hs => hx s (List.mem_cons_of_mem _ hs)
      have h2 := hx x List.mem_cons_self
      have h3 : (txS x).length ≤ 17 := by
        rw [txS, tx_small (by rw [strB_len]; omega), List.length_append, nb_length, strB_len]
        have : wid 1 = 1 := by decide
        omega
      rw [List.flatMap_cons, List.length_append, List.length_cons]
      omega
  have h1 := key (l.take j) fun s hs => nameOk_len (List.all_eq_true.1 h s (List.mem_of_mem_take hs))
  have h2 : (l.take j).length ≤ j := by rw [List.length_take]; omega
  omega
theorem wid_1 : wid 1 = 1 := by decide
theorem wid_2 : wid 2 = 2 := by decide
theorem wid_4 : wid 4 = 4 := by decide
theorem mput_bad {w : World} {R : Snap} {L : Asrt} {pt : Option Addr} (m : Ms) (H : Holds w R L) (hm : m.Rd R.cell?) (hz : m.Sz) (hok : msgOk m = false) :
    Calls Try.prog 52 #[.pointer pt, .agg m.cells.toArray] w fun e w' => e = .returned (.tuple #[.slice none 0 0, .int .i64 3]) ∧ Holds w' R L := by
  have HM := Hid.mk' hm
  have HZ := Hid.mk' hz
  have HOK := Hid.mk' hok
  obtain ⟨kind, from_, to_, ballot, name, attempt, epoch, mark, size, what, vw, vn, vd, who, names, data⟩ := m
  obtain ⟨hw, hn, hd⟩ := hm
  obtain ⟨z1, z2, z3, z4, z5⟩ := hz
  simp only at z1 z2 z3 z4 z5 hw hn hd
  obtain ⟨aw, cw, rfl⟩ := hw.form
  obtain ⟨an, cn, rfl⟩ := hn.form
  obtain ⟨ad, cd, rfl⟩ := hd.form
  obtain ⟨R1, le1, H1, hb⟩ := H.allocR (.cells #[.int .i64 kind, .int .i64 from_, .int .i64 to_, .int .i64 ballot, .string name, .int .i64 attempt, .int .i64 epoch, .int .i64 mark, .int .i64 size, .int .i64 what, .slice aw who.length cw, .slice an names.length cn, .slice ad data.length cd] tMsg (0, 0))
  clear hw hn hd hok H
  obtain ⟨l1, n1, c1⟩ := Holds.frzFacts (H1) hb
  show Calls _ _ #[.pointer pt, .agg #[.int .i64 kind, .int .i64 from_, .int .i64 to_, .int .i64 ballot, .string name, .int .i64 attempt, .int .i64 epoch, .int .i64 mark, .int .i64 size, .int .i64 what, .slice aw who.length cw, .slice an names.length cn, .slice ad data.length cd]] _ _
  go_enter Try.func52, Try.ntmps52
  go_wp2_with fail
  refine (right25_spec (⟨kind, from_, to_, ballot, name, attempt, epoch, mark, size, what, .slice aw who.length cw, .slice an names.length cn, .slice ad data.length cd, who, names, data⟩ : Ms) H1 (fun w' h => (HM.out.le le1).world h) HZ.out).mono ?_
  rintro e w2 ⟨rfl, H2⟩
  rw [HOK.out]
  go_wp2_with fail
  go_ret2
  exact ⟨rfl, H2.weaken le1⟩
theorem mput_gen {w : World} {R : Snap} {L : Asrt} {pt : Option Addr} (g : List UInt8 → List UInt8) (m : Ms) (H : Holds w R L) (hm : m.Rd R.cell?) (hz : m.Sz) (hok : msgOk m = true) (hseal : ∀ (w : World) (R' : Snap) (L' : Asrt) (v : Value) (b : List UInt8), R.le R' → Holds w R' L' → RdB R'.cell? v b → b.length ≤ 1000000 → Calls Try.prog 117 #[.pointer pt, v] w fun e w' => ∃ o, e = .returned o ∧ Holds w' R' (star (rowB o (g b)) L')) :
    Calls Try.prog 52 #[.pointer pt, .agg m.cells.toArray] w fun e w' => ∃ o, e = .returned (.tuple #[o, .int .i64 0]) ∧ Holds w' R (star (rowB o (g (bodyB m))) L) := by
  have HM := Hid.mk' hm
  have HZ := Hid.mk' hz
  have HOK := Hid.mk' hok
  have hk := hok
  simp only [msgOk, Bool.and_eq_true, decide_eq_true_eq, Bool.or_eq_true] at hk
  obtain ⟨⟨⟨⟨⟨⟨⟨⟨⟨⟨k1, k2⟩, k3⟩, k4⟩, k5⟩, k6⟩, k7⟩, k8⟩, k9⟩, k10⟩, k11⟩ := hk
  have f1 := inAll_mem k4 (x := m.from_) (by simp)
  have f2 := inAll_mem k4 (x := m.to_) (by simp)
  have f3 := inAll_mem k5 (x := m.ballot) (by simp)
  have f4 := inAll_mem k5 (x := m.attempt) (by simp)
  have f5 := inAll_mem k5 (x := m.epoch) (by simp)
  have f6 := inAll_mem k5 (x := m.mark) (by simp)
  have f7 := inAll_mem k7 (x := m.size) (by simp)
  have f8 := inAll_mem k7 (x := (m.data.length : Int)) (by simp)
  have f9 := inAll_mem k8 (x := m.what) (by simp)
  have f10 := inAll_mem k8 (x := (m.who.length : Int)) (by simp)
  obtain ⟨kind, from_, to_, ballot, name, attempt, epoch, mark, size, what, vw, vn, vd, who, names, data⟩ := m
  obtain ⟨hw, hn, hd⟩ := hm
  obtain ⟨z1, z2, z3, z4, z5⟩ := hz
  simp only at z1 z2 z3 z4 z5 hw hn hd
  obtain ⟨aw, cw, rfl⟩ := hw.form
  obtain ⟨an, cn, rfl⟩ := hn.form
  obtain ⟨ad, cd, rfl⟩ := hd.form
  simp only at k1 k2 k6 k9 k10 k11 f1 f2 f3 f4 f5 f6 f7 f8 f9 f10
  obtain ⟨R1, le1, H1, hb⟩ := H.allocR (.cells #[.int .i64 kind, .int .i64 from_, .int .i64 to_, .int .i64 ballot, .string name, .int .i64 attempt, .int .i64 epoch, .int .i64 mark, .int .i64 size, .int .i64 what, .slice aw who.length cw, .slice an names.length cn, .slice ad data.length cd] tMsg (0, 0))
  have HW := Hid.mk' (Rd.le hw le1)
  have HN := Hid.mk' (Rd.le hn le1)
  have HD := Hid.mk' (Rd.le hd le1)
  have HS := Hid.mk' hseal
  have K6 := Hid.mk' k6
  have K10 := Hid.mk' k10
  clear hw hn hd hok H k3 k4 k5 k7 k8 hseal k6 k10
  obtain ⟨l1, n1, c1⟩ := Holds.frzFacts (H1) hb
  show Calls _ _ #[.pointer pt, .agg #[.int .i64 kind, .int .i64 from_, .int .i64 to_, .int .i64 ballot, .string name, .int .i64 attempt, .int .i64 epoch, .int .i64 mark, .int .i64 size, .int .i64 what, .slice aw who.length cw, .slice an names.length cn, .slice ad data.length cd]] _ _
  go_enter Try.func52, Try.ntmps52
  go_wp2_with fail
  refine (right25_spec (⟨kind, from_, to_, ballot, name, attempt, epoch, mark, size, what, .slice aw who.length cw, .slice an names.length cn, .slice ad data.length cd, who, names, data⟩ : Ms) H1 (fun w' h => (HM.out.le le1).world h) HZ.out).mono ?_
  rintro e w2 ⟨rfl, H2⟩
  rw [HOK.out]
  clear H1 l1 n1 c1
  have H3 : Holds _ R1 (star (wr _ []) L) := wr_shut (((H2.alloc #[.slice none 0 0] 153).nilRow tU8 1).swap)
  go_wp2_with fail
  generalize (World.alloc ..) = w3 at H3 ⊢
  generalize w2.heap.size = pw at H3 ⊢
  clear H2
  refine (num_spec H3 (by simp) (by omega)).mono ?_
  rintro e w4 ⟨rfl, H4⟩
  rw [List.nil_append] at H4
  clear H3
  obtain ⟨l4, n4, c4⟩ := Holds.frzFacts (H4) hb
  go_wp2_with fail
  refine (num_spec H4 (by simp [nb_length, wid_1, wid_2, wid_4]) (by omega)).mono ?_
  rintro e w5 ⟨rfl, H5⟩
  clear H4 l4 n4 c4
  obtain ⟨l5, n5, c5⟩ := Holds.frzFacts (H5) hb
  go_wp2_with fail
  refine (num_spec H5 (by simp [nb_length, wid_1, wid_2, wid_4]) (by omega)).mono ?_
  rintro e w6 ⟨rfl, H6⟩
  clear H5 l5 n5 c5
  obtain ⟨l6, n6, c6⟩ := Holds.frzFacts (H6) hb
  go_wp2_with fail
  refine (num_spec H6 (by simp [nb_length, wid_1, wid_2, wid_4]) (by omega)).mono ?_
  rintro e w7 ⟨rfl, H7⟩
  clear H6 l6 n6 c6
  obtain ⟨l7, n7, c7⟩ := Holds.frzFacts (H7) hb
  go_wp2_with fail
  refine (num_spec H7 (by simp [nb_length, wid_1, wid_2, wid_4]) (by omega)).mono ?_
  rintro e w8 ⟨rfl, H8⟩
  clear H7 l7 n7 c7
  obtain ⟨l8, n8, c8⟩ := Holds.frzFacts (H8) hb
  obtain ⟨as8, cs8, w9, hconv, R9, le9, H9, hs9⟩ := convBytes H8 z1
  clear l8 n8 c8
  obtain ⟨l8, n8, c8⟩ := Holds.frzFacts (H8) hb
  go_wp2_with fail
  have hlen9 : (strB name).length ≤ 1000000 := by
    rw [strB_len]
    rcases k11 with k | k
    · omega
    · have := nameOk_len k; omega
  refine (text_spec H9 (by simp [nb_length, wid_1, wid_2, wid_4]) hlen9 hs9).mono ?_
  rintro e w10 ⟨rfl, H10⟩
  have hb10 := le9.blk _ _ hb
  clear H8 H9 hconv l8 n8 c8
  have e10 : nb 1 77 ++ nb 1 kind ++ nb 2 from_ ++ nb 2 to_ ++ nb 4 ballot ++ nb 1 (min (strB name).length 255 : Nat) ++ (strB name).take 255 = nb 1 77 ++ (nb 1 kind ++ (nb 2 from_ ++ (nb 2 to_ ++ (nb 4 ballot ++ txS name)))) := by
    simp only [List.append_assoc, txS, tx]
  rw [e10] at H10
  obtain ⟨T, hT⟩ : ∃ T, T = nb 1 77 ++ (nb 1 kind ++ (nb 2 from_ ++ (nb 2 to_ ++ (nb 4 ballot ++ txS name)))) := ⟨_, rfl⟩
  have hTl : T.length ≤ 2000 := by
    rw [hT]; simp [nb_length, wid_1, wid_2, wid_4, txS, tx]; omega
  rw [← hT] at H10
  have HT := Hid.mk' hT
  clear hT e10
  obtain ⟨l10, n10, c10⟩ := Holds.frzFacts (H10) hb10
  have H11 := H10.alloc #[.int .i64 attempt, .int .i64 epoch, .int .i64 mark] tInt
  obtain ⟨R11, le11, H12, hb11⟩ := H11.freezeBlk
  have hb12 := le11.blk _ _ hb10
  clear H11
  have R11w : RdI R11.cell? (.slice (some ⟨w10.heap.size, 0, none⟩) 3 3) [attempt, epoch, mark] := by
    refine ⟨_, _, rfl, Nat.le_refl _, by decide, rfl, (fun e => by cases e), ?_⟩
    intro b' o' s e j u hu
    simp only [Option.some.injEq, Addr.mk.injEq] at e
    obtain ⟨rfl, rfl, rfl⟩ := e
    refine ⟨rfl, ?_⟩
    unfold Snap.cell?
    simp only [hb11, Nat.zero_add]
    simpa using hu
  have HR3 := Hid.mk' R11w
  have hle3 : ∀ x ∈ [attempt, epoch, mark], x ≤ 4294967295 := by
    intro x hx
    simp only [List.mem_cons, List.not_mem_nil, or_false] at hx
    rcases hx with rfl | rfl | rfl <;> omega
  have HL3 := Hid.mk' hle3
  clear R11w hle3
  have hgr : (World.alloc w10 (.cells #[.int .i64 attempt, .int .i64 epoch, .int .i64 mark] tInt)) = World.alloc w10 (.cells #[.int .i64 attempt, .int .i64 epoch, .int .i64 mark] tInt) := rfl
  go_wp2_with fail
  go_loopw [48] (fun i wx => ∃ j : Nat, i = .int .i64 j ∧ j ≤ 3 ∧ Holds wx R11 (star (wr pw (T ++ ([attempt, epoch, mark].take j).flatMap (nb 4))) L)) (fun i _ => 3 - (intOf i).toNat)
  case atStart => exact ⟨0, rfl, by omega, by simpa using H12⟩
  case round =>
    clear H12 l10 n10 c10 H10 hgr
    obtain ⟨j, rfl, hj, H13⟩ := hrel
    by_cases hlt : j < 3
    · have hjl : j < [attempt, epoch, mark].length := hlt
      obtain ⟨b1, o1, ha, hc⟩ := rdI_at (Rd.world HR3.out H13) hjl
      simp only [Option.some.injEq, Addr.mk.injEq] at ha
      obtain ⟨rfl, rfl, _⟩ := ha
      have hx := HL3.out _ (List.getElem_mem hjl)
      have i1 : (j : Int) < 3 := by omega
      have i0 : (0 : Int) ≤ (j : Int) := by omega
      have hs : Hid (([attempt, epoch, mark].take (j + 1)).flatMap (nb 4) = ([attempt, epoch, mark].take j).flatMap (nb 4) ++ nb 4 ([attempt, epoch, mark][j])) := Hid.mk' (by
        rw [List.take_succ_eq_append_getElem hjl, List.flatMap_append]; simp)
      have hl9 : (T ++ ([attempt, epoch, mark].take j).flatMap (nb 4)).length ≤ 1000000 := by
        rw [List.length_append, flatB_len (k := 4) (fun x => by rw [nb_length, wid_4]), List.length_take]; omega
      generalize [attempt, epoch, mark][j] = x at hc hx hs
      rw [Nat.zero_add] at hc
      go_wp2_with fail
      refine (num_spec (n := x) H13 hl9 (by omega)).mono ?_
      rintro e w14 ⟨rfl, H14⟩
      go_wp2_with fail
      go_roundw
      case rel => exact ⟨j + 1, by go_num, hlt, by rw [hs.out, ← List.append_assoc]; exact H14⟩
      case measure => simp [intOf]; omega
    · obtain rfl : j = 3 := by omega
      have e14 : T ++ ([attempt, epoch, mark].take 3).flatMap (nb 4) = T ++ (nb 4 attempt ++ (nb 4 epoch ++ nb 4 mark)) := by simp
      rw [e14] at H13
      clear e14
      obtain ⟨l13, n13, c13⟩ := Holds.frzFacts (H13) hb12
      go_wp2_with fail
      refine (num_spec (n := size) H13 (by simp [nb_length, wid_4]; omega) (by omega)).mono ?_
      rintro e w15 ⟨rfl, H15⟩
      clear H13 l13 n13 c13
      obtain ⟨l13, n13, c13⟩ := Holds.frzFacts (H15) hb12
      go_wp2_with fail
      refine (num_spec (n := what) H15 (by simp [nb_length, wid_4, wid_2]; omega) (by omega)).mono ?_
      rintro e w16 ⟨rfl, H16⟩
      clear H15 l13 n13 c13
      obtain ⟨l13, n13, c13⟩ := Holds.frzFacts (H16) hb12
      go_wp2_with fail
      refine (num_spec (n := (who.length : Int)) H16 (by simp [nb_length, wid_4, wid_2, wid_1]; omega) (by omega)).mono ?_
      rintro e w17 ⟨rfl, H17⟩
      clear H16 l13 n13 c13
      have e17 : T ++ (nb 4 attempt ++ (nb 4 epoch ++ nb 4 mark)) ++ nb 2 size ++ nb 1 what ++ nb 1 (who.length : Int) = T ++ (nb 4 attempt ++ (nb 4 epoch ++ (nb 4 mark ++ (nb 2 size ++ (nb 1 what ++ nb 1 (who.length : Int)))))) := by simp only [List.append_assoc]
      rw [e17] at H17
      obtain ⟨T2, hT2⟩ : ∃ T2, T2 = T ++ (nb 4 attempt ++ (nb 4 epoch ++ (nb 4 mark ++ (nb 2 size ++ (nb 1 what ++ nb 1 (who.length : Int)))))) := ⟨_, rfl⟩
      have hT2l : T2.length ≤ 4000 := by rw [hT2]; simp [nb_length, wid_4, wid_2, wid_1]; omega
      rw [← hT2] at H17
      have HT2 := Hid.mk' hT2
      clear hT2 e17
      obtain ⟨l13, n13, c13⟩ := Holds.frzFacts (H17) hb12
      obtain ⟨nw, hnw⟩ : ∃ nw, nw = who.length := ⟨_, rfl⟩
      have HNW := Hid.mk' hnw
      have hnw9 : nw ≤ 255 := by omega
      rw [← hnw] at c13
      have HWR : Hid (RdI R11.cell? (.slice aw nw cw) who) := Hid.mk' (by rw [hnw]; exact Rd.le HW.out (le9.trans le11))
      have HB12 : Hid (R11.blk w.heap.size = some (.cells #[.int .i64 kind, .int .i64 from_, .int .i64 to_, .int .i64 ballot, .string name, .int .i64 attempt, .int .i64 epoch, .int .i64 mark, .int .i64 size, .int .i64 what, .slice aw who.length cw, .slice an names.length cn, .slice ad data.length cd] tMsg (0, 0))) := Hid.mk' hb12
      have hbw : R11.blk w.heap.size = some (.cells #[.int .i64 kind, .int .i64 from_, .int .i64 to_, .int .i64 ballot, .string name, .int .i64 attempt, .int .i64 epoch, .int .i64 mark, .int .i64 size, .int .i64 what, .slice aw nw cw, .slice an names.length cn, .slice ad data.length cd] tMsg (0, 0)) := by rw [hnw]; exact hb12
      clear hnw hb12
      go_wp2_with fail
      go_loopw [72] (fun i wx => ∃ j : Nat, i = .int .i64 j ∧ j ≤ nw ∧ Holds wx R11 (star (Sh.wr pw (T2 ++ (who.take j).flatMap (nb 4))) L)) (fun i _ => nw - (intOf i).toNat)
      case atStart => exact ⟨0, rfl, Nat.zero_le _, by simpa using H17⟩
      case round =>
        clear H17 l13 n13 c13
        obtain ⟨j, rfl, hj, H18⟩ := hrel
        by_cases hlt2 : j < nw
        · have hjl : j < who.length := by rw [← HNW.out]; exact hlt2
          obtain ⟨b1, o1, ha, hc⟩ := rdI_at (Rd.world HWR.out H18) hjl
          subst ha
          have hx := (inAll_mem K6.out (List.getElem_mem hjl)).2
          have hs : Hid ((who.take (j + 1)).flatMap (nb 4) = (who.take j).flatMap (nb 4) ++ nb 4 (who[j])) := Hid.mk' (by
            rw [List.take_succ_eq_append_getElem hjl, List.flatMap_append]; simp)
          have hl9 : (T2 ++ (who.take j).flatMap (nb 4)).length ≤ 1000000 := by
            rw [List.length_append, flatB_len (k := 4) (fun x => by rw [nb_length, wid_4]), List.length_take]; omega
          generalize who[j] = x at hc hx hs
          go_wp2_with fail
          refine (num_spec (n := x) H18 hl9 (by omega)).mono ?_
          rintro e w19 ⟨rfl, H19⟩
          go_wp2_with fail
          go_roundw
          case rel => exact ⟨j + 1, by go_num, hlt2, by rw [hs.out, ← List.append_assoc]; exact H19⟩
          case measure => simp [intOf]; omega
        · rw [List.take_of_length_le (by have := HNW.out; omega)] at H18
          obtain ⟨T3, hT3⟩ : ∃ T3, T3 = T2 ++ who.flatMap (nb 4) := ⟨_, rfl⟩
          have hT3l : T3.length ≤ 6000 := by
            rw [hT3, List.length_append, flatB_len (k := 4) (fun x => by rw [nb_length, wid_4])]
            have := HNW.out
            omega
          rw [← hT3] at H18
          have HT3 := Hid.mk' hT3
          clear hT3
          obtain ⟨l13, n13, c13⟩ := Holds.frzFacts (H18) hbw
          go_wp2_with fail
          refine (num_spec (n := (names.length : Int)) H18 (by omega) (by omega)).mono ?_
          rintro e w20 ⟨rfl, H20⟩
          clear H18 l13 n13 c13
          obtain ⟨l13, n13, c13⟩ := Holds.frzFacts (H20) hbw
          obtain ⟨T4, hT4⟩ : ∃ T4, T4 = T3 ++ nb 1 (names.length : Int) := ⟨_, rfl⟩
          have hT4l : T4.length ≤ 6001 := by rw [hT4]; simp [nb_length, wid_1]; omega
          rw [← hT4] at H20
          have HT4 := Hid.mk' hT4
          obtain ⟨nn, hnn⟩ : ∃ nn, nn = names.length := ⟨_, rfl⟩
          have HNN := Hid.mk' hnn
          have hnn9 : nn ≤ 8 := by omega
          have hbn : R11.blk w.heap.size = some (.cells #[.int .i64 kind, .int .i64 from_, .int .i64 to_, .int .i64 ballot, .string name, .int .i64 attempt, .int .i64 epoch, .int .i64 mark, .int .i64 size, .int .i64 what, .slice aw nw cw, .slice an nn cn, .slice ad data.length cd] tMsg (0, 0)) := by rw [hnn]; exact hbw
          rw [← hnn] at c13
          have HNR : Hid (RdS R11.cell? (.slice an nn cn) names) := Hid.mk' (by rw [hnn]; exact Rd.le HN.out (le9.trans le11))
          clear hnn hT4 hbw
          go_wp2_with fail
          go_loopw [88] (fun i wx => ∃ (j : Nat) (R12 : Snap), i = .int .i64 j ∧ j ≤ nn ∧ R11.le R12 ∧ Holds wx R12 (star (Sh.wr pw (T4 ++ (names.take j).flatMap txS)) L)) (fun i _ => nn - (intOf i).toNat)
          case atStart => exact ⟨0, R11, rfl, Nat.zero_le _, Snap.le.refl _, by simpa using H20⟩
          case round =>
            clear H20 l13 n13 c13
            obtain ⟨j, R12, rfl, hj, le12, H21⟩ := hrel
            by_cases hlt3 : j < nn
            · have hjl : j < names.length := by rw [← HNN.out]; exact hlt3
              obtain ⟨b1, o1, ha, hc⟩ := rdS_at (Rd.world (Rd.le HNR.out le12) H21) hjl
              subst ha
              have hx16 := nameOk_len (List.all_eq_true.1 K10.out _ (List.getElem_mem hjl))
              have hxm := z2 _ (List.getElem_mem hjl)
              have hs : Hid ((names.take (j + 1)).flatMap txS = (names.take j).flatMap txS ++ txS (names[j])) := Hid.mk' (by
                rw [List.take_succ_eq_append_getElem hjl, List.flatMap_append]; simp)
              have hl9 : (T4 ++ (names.take j).flatMap txS).length ≤ 900000 := by
                rw [List.length_append]
                have := txs_len K10.out j
                omega
              generalize names[j] = x at hc hx16 hxm hs
              obtain ⟨a9, c9, w22, hconv, R22, le22, H22, hs22⟩ := convBytes H21 hxm
              go_wp2_with fail
              refine (text_spec H22 hl9 (by rw [strB_len]; omega) hs22).mono ?_
              rintro e w23 ⟨rfl, H23⟩
              clear hconv
              go_wp2_with fail
              go_roundw
              case rel =>
                refine ⟨j + 1, R22, by go_num, hlt3, le12.trans le22, ?_⟩
                rw [hs.out, ← List.append_assoc, txS, tx, ← List.append_assoc]; exact H23
              case measure => simp [intOf]; omega
            · rw [List.take_of_length_le (by have := HNN.out; omega)] at H21
              have hb13 := le12.blk _ _ hbn
              obtain ⟨T5, hT5⟩ : ∃ T5, T5 = T4 ++ names.flatMap txS := ⟨_, rfl⟩
              have hT5l : T5.length ≤ 10000 := by
                rw [hT5, List.length_append]
                have := txs_len K10.out names.length
                rw [List.take_length] at this
                have := HNN.out
                omega
              rw [← hT5] at H21
              have HT5 := Hid.mk' hT5
              clear hT5
              obtain ⟨l13, n13, c13⟩ := Holds.frzFacts (H21) hb13
              go_wp2_with fail
              refine (text_spec H21 (by omega) z5 (Rd.le HD.out ((le9.trans le11).trans le12))).mono ?_
              rintro e w24 ⟨rfl, H24⟩
              clear H21 l13 n13 c13
              have e24 : T5 ++ nb 1 (min data.length 255 : Nat) ++ data.take 255 = bodyB (⟨kind, from_, to_, ballot, name, attempt, epoch, mark, size, what, .slice aw who.length cw, .slice an names.length cn, .slice ad data.length cd, who, names, data⟩ : Ms) := by
                rw [HT5.out, HT4.out, HT3.out, HT2.out, HT.out]
                simp only [bodyB, bodyS, tx, List.append_assoc, List.append_nil]
              rw [e24] at H24
              have hbl : (bodyB (⟨kind, from_, to_, ballot, name, attempt, epoch, mark, size, what, .slice aw who.length cw, .slice an names.length cn, .slice ad data.length cd, who, names, data⟩ : Ms)).length ≤ 1000000 := by
                rw [← e24]; simp [nb_length, wid_1]; omega
              clear e24
              go_wp2_with fail
              refine (bytes_spec H24 hbl).mono ?_
              rintro e w25 ⟨v25, rfl, H25⟩
              obtain ⟨R26, le26, H26, hr26⟩ := H25.freezeRow
              have leA := (((le1.trans le9).trans le11).trans le12).trans le26
              go_wp2_with fail
              refine (HS.out _ _ _ _ _ leA H26 hr26 hbl).mono ?_
              rintro e w27 ⟨o, rfl, H27⟩
              go_wp2_with fail
              go_ret2
              exact ⟨o, rfl, (H27.drop2).weaken leA⟩
theorem mput_ok {w : World} {R : Snap} {L : Asrt} {p : Nat} (m : Ms) (H : Holds w R L) (hT : R.blk p = some (.cells (rowC 256) tabT (0, 0))) (hm : m.Rd R.cell?) (hz : m.Sz) (hok : msgOk m = true) :
    Calls Try.prog 52 #[.pointer (some ⟨p, 0, none⟩), .agg m.cells.toArray] w fun e w' => ∃ o, e = .returned (.tuple #[o, .int .i64 0]) ∧ Holds w' R (star (rowB o (putM m)) L) :=
  mput_gen sealB m H hm hz hok fun w R' L' v b le H hr hb => seal_crc H (le.blk _ _ hT) hr hb
theorem mput_nil {w : World} {R : Snap} {L : Asrt} (m : Ms) (H : Holds w R L) (hm : m.Rd R.cell?) (hz : m.Sz) (hok : msgOk m = true) :
    Calls Try.prog 52 #[.pointer none, .agg m.cells.toArray] w fun e w' => ∃ o, e = .returned (.tuple #[o, .int .i64 0]) ∧ Holds w' R (star (rowB o (bodyB m)) L) :=
  mput_gen id m H hm hz hok fun w R' L' v b le H hr hb => seal_nil H hr hb
end Sh
/- Changes: their cells; how a list of them reads; what is wrong with them; their text. -/
set_option linter.unusedVariables false
set_option linter.unusedSimpArgs false
namespace Sh
open Go Go.RowKit Go.Proofs
attribute [local go_sem ↓] Go.wp_at_zero Go.wp_at_succ
set_option maxHeartbeats 1000000
set_option maxRecDepth 100000

structure Ch where
  at_ : Int
  v : Value
  data : List UInt8
instance : Inhabited Ch := ⟨⟨0, .slice none 0 0, []⟩⟩
abbrev tChg : TypeId := 169
abbrev tChgs : TypeId := 93
def Ch.cells (c : Ch) : List Value := [.int .i64 c.at_, c.v]
theorem Ch.cells_len (c : Ch) : c.cells.length = 2 := rfl
def RdC (c : Addr → Option Value) (v : Value) (cs : List Ch) : Prop := Rd c 2 v cs.length (cs.flatMap Ch.cells) ∧ ∀ x ∈ cs, RdB c x.v x.data
abbrev En := Int × List UInt8
def conC (cs : List Ch) : List En := cs.map fun x => (x.at_, x.data)
def SzC (cs : List Ch) : Prop := cs.length ≤ 1000 ∧ ∀ x ∈ cs, x.data.length ≤ 10000
theorem RdC.le {R R' : Snap} {v : Value} {cs : List Ch} (h : RdC R.cell? v cs) (l : R.le R') : RdC R'.cell? v cs := ⟨Rd.le h.1 l, fun q hq => Rd.le (h.2 q hq) l⟩
theorem RdC.world {w : World} {R : Snap} {L : Asrt} {v : Value} {cs : List Ch} (h : RdC R.cell? v cs) (H : Holds w R L) : RdC w.cell? v cs := ⟨Rd.world h.1 H, fun q hq => Rd.world (h.2 q hq) H⟩
theorem RdC.form {c : Addr → Option Value} {v : Value} {cs : List Ch} (h : RdC c v cs) : ∃ a cap, v = .slice a cs.length cap := Rd.form h.1
theorem RdC.at {c : Addr → Option Value} {a : Option Addr} {n cap : Nat} {cs : List Ch} (h : RdC c (.slice a n cap) cs) {j : Nat} (hj : j < cs.length) :
    ∃ b o, a = some ⟨b, o, none⟩ ∧ c ⟨b, o + j * 2, none⟩ = some (.int .i64 cs[j].at_) ∧ c ⟨b, o + j * 2 + 1, none⟩ = some cs[j].v ∧ RdB c cs[j].v cs[j].data := by
  obtain ⟨h1, h2⟩ := h
  obtain ⟨b, o, rfl, hx⟩ := rd_elt (f := Ch.cells) Ch.cells_len h1 (by decide) hj
  exact ⟨b, o, rfl, hx 0 _ (by omega) rfl, hx 1 _ (by omega) rfl, h2 _ (List.getElem_mem hj)⟩
theorem conC_len (cs : List Ch) : (conC cs).length = cs.length := by simp [conC]
theorem conC_get {cs : List Ch} {j : Nat} (h : j < cs.length) : (conC cs)[j]? = some (cs[j].at_, cs[j].data) := by
  simp [conC, h]

def placeC (a : Int) : Bool := decide (a = 0) || (decide (34 ≤ a) && decide (a ≤ 511))
def formC (d : List UInt8) : Bool := decide (d.length = 0) || decide (d.length = 64)
def sizeC (l : List En) : Nat := 2 + (l.map fun c => 3 + c.2.length).sum
def entC (c : En) : List UInt8 := nb 2 c.1 ++ (nb 1 (min c.2.length 1 : Nat) ++ c.2)
def textC (l : List En) : List UInt8 := nb 2 (l.length : Nat) ++ l.flatMap entC
theorem entC_len (c : En) : (entC c).length = 3 + c.2.length := by simp [entC, nb_length, wid_1, wid_2]; omega
theorem textC_len (l : List En) : (textC l).length = sizeC l := by
  rw [textC, sizeC, List.length_append, nb_length, wid_2]
  congr 1
  induction l with
  | nil => rfl
  | cons c l ih => rw [List.flatMap_cons, List.length_append, entC_len, List.map_cons, List.sum_cons, ih]
def checkC (l : List En) : Int :=
  if l.all (fun c => placeC c.1) = true then (if (l.map Prod.fst).Nodup then (if l.all (fun c => formC c.2) = true then (if sizeC l ≤ 1856 then 0 else 11) else 3) else 5) else 2
theorem checkC_ok {l : List En} (h : checkC l = 0) : l.all (fun c => placeC c.1) = true ∧ (l.map Prod.fst).Nodup ∧ l.all (fun c => formC c.2) = true ∧ sizeC l ≤ 1856 := by
  unfold checkC at h
  split at h
  · split at h
    · split at h
      · split at h
        · exact ⟨by assumption, by assumption, by assumption, by assumption⟩
        · cases h
      · cases h
    · cases h
  · cases h
theorem sizeC_take {l : List En} {j : Nat} (h : j < l.length) : sizeC (l.take (j + 1)) = sizeC (l.take j) + (3 + l[j].2.length) := by
  rw [List.take_succ_eq_append_getElem h, sizeC, sizeC, List.map_append, List.sum_append]
  simp; omega
theorem sizeC_le (cs : List Ch) (h : SzC cs) (j : Nat) : sizeC ((conC cs).take j) ≤ 2 + 10003 * cs.length := by
  obtain ⟨h1, h2⟩ := h
  have : ∀ l : List En, (∀ x ∈ l, x.2.length ≤ 10000) → (l.map fun c => 3 + c.2.length).sum ≤ 10003 * l.length := by
    intro l hl
    induction l with
    | nil => simp
    | cons c l ih =>
      have h3 := hl c List.mem_cons_self
      have h4 := ih fun x hx => hl x (List.mem_cons_of_mem _ hx)
      rw [List.map_cons, List.sum_cons, List.length_cons]; omega
  have h3 := this ((conC cs).take j) (fun x hx => by
    have h4 := List.mem_of_mem_take hx
    unfold conC at h4
    obtain ⟨y, hy, rfl⟩ := List.mem_map.1 h4
    exact h2 y hy)
  have h4 : ((conC cs).take j).length ≤ cs.length := by rw [List.length_take, conC_len]; omega
  unfold sizeC
  have : 10003 * ((conC cs).take j).length ≤ 10003 * cs.length := Nat.mul_le_mul_left _ h4
  omega
/-- How many different ones there are. -/
def dc : List Int → Nat
  | [] => 0
  | x :: l => if x ∈ l then dc l else dc l + 1
theorem dc_le : ∀ l : List Int, dc l ≤ l.length
  | [] => Nat.le_refl _
  | x :: l => by
    have := dc_le l
    unfold dc
    split <;> simp <;> omega
theorem dc_eq : ∀ l : List Int, dc l = l.length ↔ l.Nodup
  | [] => by simp [dc]
  | x :: l => by
    have h1 := dc_le l
    have h2 := dc_eq l
    rw [List.nodup_cons, dc, List.length_cons]
    split
    · rename_i h
      constructor
      · intro h3; omega
      · intro h3; exact absurd h h3.1
    · rename_i h
      constructor
      · intro h3; exact ⟨h, h2.1 (by omega)⟩
      · intro h3; rw [h2.2 h3.2]
end Sh
/- disk.Disk's contracts: what a disk owns, and the small functions. -/
set_option linter.unusedVariables false
set_option linter.unusedSimpArgs false
namespace Sh
open Go Go.RowKit Go.Proofs
attribute [local go_sem ↓] Go.wp_at_zero Go.wp_at_succ
set_option maxHeartbeats 1000000
set_option maxRecDepth 100000

/-- A disk: its block, the row of its sectors' values, and each sector's bytes. -/
def diskA (p : Nat) (q : List (Value × List UInt8)) (left : Int) (dead : Bool) : Asrt := ex fun vs => star (blk p #[vs, .int .i64 left, .bool dead] 195) (star (row tBytes 1 vs q.length (q.map (·.1))) (bytesAll q))
/-- A disk whose sectors are S. -/
def diskS (p : Nat) (S : List (List UInt8)) (left : Int) (dead : Bool) : Asrt := ex fun q : {q : List (Value × List UInt8) // q.map (·.2) = S} => diskA p q.1 left dead
section
variable {w : World} {R : Snap} {L : Asrt} {p : Nat} {S : List (List UInt8)} {left : Int} {dead : Bool}
theorem disk_open (H : Holds w R (star (diskS p S left dead) L)) :
    ∃ (q : List (Value × List UInt8)) (a : Option Addr) (c : Nat), q.map (·.2) = S ∧ Holds w R (star (blk p #[.slice a q.length c, .int .i64 left, .bool dead] 195) (star (row tBytes 1 (.slice a q.length c) q.length (q.map (·.1))) (star (bytesAll q) L))) := by
  obtain ⟨⟨q, hq⟩, H0⟩ := H.unex
  obtain ⟨vs, H1⟩ := H0.unex
  have H3 := H1
  simp only [star_assoc] at H3
  obtain ⟨a, c, rfl⟩ := H3.swap.rowRd.form
  exact ⟨q, a, c, hq, H3⟩
theorem disk_shut {q : List (Value × List UInt8)} {v : Value} (hq : q.map (·.2) = S) (H : Holds w R (star (blk p #[v, .int .i64 left, .bool dead] 195) (star (row tBytes 1 v q.length (q.map (·.1))) (star (bytesAll q) L)))) :
    Holds w R (star (diskS p S left dead) L) := by
  refine Holds.toex (A := fun q : {q : List (Value × List UInt8) // q.map (·.2) = S} => diskA p q.1 left dead) ⟨q, hq⟩ (Holds.toex (A := fun vs => star (blk p #[vs, .int .i64 left, .bool dead] 195) (star (row tBytes 1 vs q.length (q.map (·.1))) (bytesAll q))) v ?_)
  simp only [star_assoc]
  exact H
theorem zero_spec (H : Holds w R L) : Calls Try.prog 176 #[] w fun e w' => ∃ v, e = .returned v ∧ Holds w' R (star (rowB v (List.replicate 64 0)) L) := by
  go_enter Try.func176, Try.ntmps176
  go_wp2_with (with_reducible refine stop_make ?_)
  refine Hold.go (wpList_makeB (n := 64) rfl _ _ rfl rfl rfl H (by decide) ?_)
  intro v2 w2 H2
  go_wp2_with fail
  go_ret
  exact ⟨_, rfl, H2⟩
theorem size_spec (H : Holds w R (star (diskS p S left dead) L)) :
    Calls Try.prog 94 #[.pointer (some ⟨p, 0, none⟩)] w fun e w' => e = .returned (.int .i64 S.length) ∧ w = w' := by
  obtain ⟨q, a, c, rfl, H1⟩ := disk_open H
  obtain ⟨l1, n1, c1, z1⟩ := Holds.facts (H1)
  go_enter Try.func94, Try.ntmps94
  go_wp2_with fail
  go_ret
  exact ⟨by simp, rfl⟩
theorem there_spec {i : Int} (H : Holds w R (star (diskS p S left dead) L)) :
    Calls Try.prog 174 #[.pointer (some ⟨p, 0, none⟩), .int .i64 i] w fun e w' => e = .returned (.bool (decide (0 ≤ i ∧ i < S.length))) ∧ w = w' := by
  by_cases h0 : 0 ≤ i
  · have t0 : (decide ((0 : Int) ≤ i)) = true := by simpa using h0
    go_enter Try.func174, Try.ntmps174
    go_wp2_with fail
    refine (size_spec H).mono ?_
    rintro e w1 ⟨rfl, rfl⟩
    go_wp2_with fail
    go_ret
    exact ⟨ret_bool (by simp [h0]), rfl⟩
  · have t0 : (decide ((0 : Int) ≤ i)) = false := by simpa using h0
    go_enter Try.func174, Try.ntmps174
    go_wp2_with fail
    go_ret
    exact ⟨ret_bool (by simp [h0]), rfl⟩
def spendOk (left : Int) (dead : Bool) : Bool := !(dead || decide (left = 0))
def spendLeft (left : Int) (dead : Bool) : Int := if spendOk left dead = true ∧ 0 < left then left - 1 else left
theorem spend_spec (H : Holds w R (star (diskS p S left dead) L)) (hl : -1 ≤ left ∧ left ≤ 9223372036854775807) :
    Calls Try.prog 175 #[.pointer (some ⟨p, 0, none⟩)] w fun e w' => e = .returned (.bool (spendOk left dead)) ∧ Holds w' R (star (diskS p S (spendLeft left dead) (!spendOk left dead)) L) := by
  obtain ⟨q, a, c, hq, H1⟩ := disk_open H
  clear H
  have HQ := Hid.mk' hq
  obtain ⟨l1, n1, c1, z1⟩ := Holds.facts (H1)
  by_cases h0 : left = 0
  · subst h0
    have e1 : spendOk 0 dead = false := by simp [spendOk]
    have e2 : spendLeft 0 dead = 0 := by simp [spendLeft]
    rw [e1, e2]
    clear e1 e2
    go_enter Try.func175, Try.ntmps175
    go_wp2_with fail
    go_ret
    exact ⟨rfl, disk_shut HQ.out (H1.set 2 (.bool true))⟩
  · have t0 : (left == 0) = false := by simpa using h0
    cases dead with
    | true =>
      have e1 : spendOk left true = false := by simp [spendOk]
      have e2 : spendLeft left true = left := by simp [spendLeft, e1]
      rw [e1, e2]
      clear e1 e2
      go_enter Try.func175, Try.ntmps175
      go_wp2_with fail
      go_ret
      exact ⟨rfl, disk_shut HQ.out H1⟩
    | false =>
      have e1 : spendOk left false = true := by simp [spendOk, h0]
      by_cases h1 : 0 < left
      · have e2 : spendLeft left false = left - 1 := by simp [spendLeft, e1, h1]
        have t1 : (decide (0 < left)) = true := by simpa using h1
        rw [e1, e2]
        clear e1 e2
        go_enter Try.func175, Try.ntmps175
        go_wp2_with fail
        go_ret
        exact ⟨rfl, disk_shut HQ.out (H1.set 1 (.int .i64 (left - 1)))⟩
      · have e2 : spendLeft left false = left := by simp [spendLeft, h1]
        have t1 : (decide (0 < left)) = false := by simpa using h1
        rw [e1, e2]
        clear e1 e2
        go_enter Try.func175, Try.ntmps175
        go_wp2_with fail
        go_ret
        exact ⟨rfl, disk_shut HQ.out H1⟩
end
end Sh
/- disk.New. -/
set_option linter.unusedVariables false
set_option linter.unusedSimpArgs false
namespace Sh
open Go Go.RowKit Go.Proofs
attribute [local go_sem ↓] Go.wp_at_zero Go.wp_at_succ
set_option maxHeartbeats 1000000
set_option maxRecDepth 100000

abbrev tSecs : TypeId := 88
theorem undSecs : Try.prog.underlying tSecs = some (.slice tBytes) := Try.underlying88
theorem infoBytes : (Try.prog.info? tBytes).map (fun i => (i.zero, i.size, i.bytes)) = some (some (.slice none 0 0), 1, 24) := by kernel_rfl
def secN (n : Int) : Nat := (min (max n 1) 512).toNat
abbrev zeros (n : Nat) : List (List UInt8) := List.replicate n (List.replicate 64 0)
theorem disknew_spec {w : World} {R : Snap} {L : Asrt} {n : Int} (H : Holds w R L) :
    Calls Try.prog 162 #[.int .i64 n] w fun e w' => ∃ p, e = .returned (.pointer (some ⟨p, 0, none⟩)) ∧ Holds w' R (star (diskS p (zeros (secN n)) (-1) false) L) := by
  obtain ⟨m, hm⟩ : ∃ m, m = secN n := ⟨_, rfl⟩
  have e1 : min (max n 1) 512 = (m : Int) := by rw [hm, secN]; omega
  have hm5 : m ≤ 512 := by omega
  rw [← hm]
  have HM := Hid.mk' hm
  clear hm
  go_enter Try.func162, Try.ntmps162
  go_wp2_with fail
  have H1 : Holds _ R (star (diskS w.heap.size [] (-1) false) L) := disk_shut (q := []) rfl (by
    show Holds _ R (star _ (star _ (star emp L)))
    rw [emp_star]
    exact ((H.alloc #[.slice none 0 0, .int .i64 (-1), .bool false] 195).nilRow tBytes 1).swap)
  generalize (World.alloc ..) = w1 at H1 ⊢
  generalize w.heap.size = p at H1 ⊢
  go_loopw [9] (fun i wx => ∃ j : Nat, i = .int .i64 j ∧ j ≤ m ∧ Holds wx R (star (diskS p (zeros j) (-1) false) L)) (fun i _ => m - (intOf i).toNat)
  case atStart => exact ⟨0, rfl, Nat.zero_le _, H1⟩
  case round =>
    clear H H1
    obtain ⟨j, rfl, hj, H2⟩ := hrel
    by_cases hlt : j < m
    · go_upto_region 4 with fail
      obtain ⟨q, a, c, hq, H3⟩ := disk_open H2
      clear H2
      have hql : q.length = j := by have := congrArg List.length hq; simpa using this
      have HQ := Hid.mk' hq
      have HQL := Hid.mk' hql
      have hq9 : q.length ≤ 512 := by omega
      clear hq hql
      obtain ⟨l3, n3, c3, z3⟩ := Holds.facts (H3)
      go_region_law ((first | (go_simp; go_at_call 176; refine (zero_spec H3.drew).mono ?_; rintro e w5 ⟨v5, rfl, H5⟩; obtain ⟨a5, c5, rfl⟩ := H5.rowRd.form; rw [List.length_replicate] at H5 ⊢; obtain ⟨l5, n5, cp5, fp5⟩ := H5.swap.facts; have H6 := H5.pick3.alloc #[.slice a5 64 c5] tBytes; have hr6 := (H6.toRow 1 1 1 (Nat.le_refl _) (by simp [maxLen]) rfl).rowRd) | (refine step_append rfl _ _ (by rfl) undSecs infoBytes rfl (by decide) (by rfl) (by rfl) H6.drop hr6 (by simp [Value.oneCell']) (by simp [maxLen]; omega) (by omega) ?_; intro v6 w6 H7; obtain ⟨a6, c6, rfl⟩ := H7.rowRd.form; have cp6 := H7.pick3.blkCell; have fp6 := H7.pick3.blkFrozen)))
      all_goals
        go_wp2_with fail
        go_roundw
        case rel =>
          refine ⟨j + 1, by go_num, hlt, ?_⟩
          have H8 := H7.pick3.set 0 (.slice a6 (q.length + 1) c6)
          refine disk_shut (v := .slice a6 (q.length + 1) c6) (q := q ++ [(.slice a5 64 c5, List.replicate 64 0)]) (by rw [List.map_append, HQ.out]; simp [zeros, List.replicate_succ']) ?_
          rw [bytesAll_append, bytesAll_one, List.length_append, List.length_singleton, List.map_append]
          exact H8.ac (by ac_rfl)
        case measure => simp [intOf]; omega
    · go_wp2_with fail
      go_ret
      rw [show j = m by omega] at H2
      exact ⟨_, rfl, H2⟩
end Sh
/- (*disk.Disk).Write. -/
set_option linter.unusedVariables false
set_option linter.unusedSimpArgs false
namespace Sh
open Go Go.RowKit Go.Proofs
attribute [local go_sem ↓] Go.wp_at_zero Go.wp_at_succ
set_option maxHeartbeats 1000000
set_option maxRecDepth 100000

def wFit (n : Nat) (i : Int) (b : List UInt8) : Bool := decide ((0 ≤ i ∧ i < n) ∧ (b.length = 0 ∨ b.length = 64))
def wOk (n : Nat) (left : Int) (dead : Bool) (i : Int) (b : List UInt8) : Bool := wFit n i b && spendOk left dead
def pad64 (b : List UInt8) : List UInt8 := b.take 64 ++ (List.replicate 64 0).drop b.length
def wS (S : List (List UInt8)) (left : Int) (dead : Bool) (i : Int) (b : List UInt8) : List (List UInt8) := if wOk S.length left dead i b = true then S.set i.toNat (pad64 b) else S
def wLeft (n : Nat) (left : Int) (dead : Bool) (i : Int) (b : List UInt8) : Int := if wFit n i b = true then spendLeft left dead else left
def wDead (n : Nat) (left : Int) (dead : Bool) (i : Int) (b : List UInt8) : Bool := if wFit n i b = true then !spendOk left dead else dead
theorem dwrite_spec {w : World} {R : Snap} {L : Asrt} {p : Nat} {S : List (List UInt8)} {left : Int} {dead : Bool} {i : Int} {v : Value} {b : List UInt8} (H : Holds w R (star (diskS p S left dead) L)) (hr : RdB R.cell? v b) (hl : -1 ≤ left ∧ left ≤ 9223372036854775807) :
    Calls Try.prog 101 #[.pointer (some ⟨p, 0, none⟩), .int .i64 i, v] w fun e w' => e = .returned (.bool (wOk S.length left dead i b)) ∧ Holds w' R (star (diskS p (wS S left dead i b) (wLeft S.length left dead i b) (wDead S.length left dead i b)) L) := by
  have hr0 := hr
  obtain ⟨ab, cb, rfl⟩ := hr.form
  by_cases h0 : 0 ≤ i ∧ i < S.length
  · have t0 : decide (0 ≤ i ∧ i < S.length) = true := by simpa using h0
    by_cases h1 : b.length = 0 ∨ b.length = 64
    · have e0 : wFit S.length i b = true := by simp only [wFit, decide_eq_true_eq]; exact ⟨h0, h1⟩
      have e1 : wOk S.length left dead i b = spendOk left dead := by simp [wOk, e0]
      simp only [wS, wLeft, wDead, e1, e0, if_true]
      clear e0 e1
      obtain ⟨k, rfl⟩ : ∃ k : Nat, i = k := ⟨i.toNat, by omega⟩
      have hk : k < S.length := by omega
      have main : Calls Try.prog 175 #[.pointer (some ⟨p, 0, none⟩)] w fun e w' => e = .returned (.bool (spendOk left dead)) ∧ Holds w' R (star (diskS p S (spendLeft left dead) (!spendOk left dead)) L) := spend_spec H hl
      rw [Int.toNat_natCast]
      have hz : (((b.length : Int) != 0) = false) ∨ (((b.length : Int) != 0) = true ∧ ((b.length : Int) != 64) = false) := by
        rcases h1 with h1 | h1
        · left; simp [h1]
        · right; simp [h1]
      clear h0 h1
      generalize spendLeft left dead = left2 at main ⊢
      generalize spendOk left dead = ok at main ⊢
      cases ok with
      | false =>
        rcases hz with hz | ⟨hz, hz2⟩
        all_goals
          go_enter Try.func101, Try.ntmps101
          go_wp2_with fail
          refine (there_spec H).mono ?_
          rintro e w1 ⟨rfl, rfl⟩
          rw [t0]
          go_wp2_with fail
          refine main.mono ?_
          rintro e w2 ⟨rfl, H2⟩
          go_wp2_with fail
          go_ret
          exact ⟨rfl, H2⟩
      | true =>
        rcases hz with hz | ⟨hz, hz2⟩
        all_goals
          go_enter Try.func101, Try.ntmps101
          go_wp2_with fail
          refine (there_spec H).mono ?_
          rintro e w1 ⟨rfl, rfl⟩
          rw [t0]
          clear t0
          go_wp2_with fail
          refine main.mono ?_
          rintro e w2 ⟨rfl, H2⟩
          clear main H
          go_wp2_with fail
          refine (zero_spec H2).mono ?_
          rintro e w3 ⟨v3, rfl, H3⟩
          clear H2
          obtain ⟨a3, c3, rfl⟩ := H3.rowRd.form
          rw [List.length_replicate] at H3 ⊢
          go_wp2_with (with_reducible refine stop_copy ?_)
          refine Hold.go (wpList_copyB rfl _ _ rfl rfl rfl H3 (hr0.world H3) ?_)
          intro w4 H4
          clear H3
          obtain ⟨q, a, c, hq, H5⟩ := disk_open H4.swap
          clear H4
          have hkq : k < q.length := by rw [← hq] at hk; simpa using hk
          obtain ⟨g, cg, ha, hcg, hg, hcell, hfro⟩ := H5.swap.rowAt (by omega)
          simp only [Value.slice.injEq, true_and] at ha
          obtain ⟨rfl, rfl⟩ := ha
          have ck := hcell k q[k].1 (by simp [hkq])
          have fk := hfro k
          have H6 := (H5.swap.rowSet k (.slice a3 64 c3) (by omega))
          have i1 : (k : Int) < q.length := by omega
          have HQ := Hid.mk' hq
          obtain ⟨l5, n5, c5, z5⟩ := Holds.facts (H5)
          clear hcell hfro hq hz
          generalize q[k].1 = y at ck
          go_wp2_with fail
          go_ret
          refine ⟨rfl, ?_⟩
          refine disk_shut (v := .slice (some ⟨g, 0, none⟩) q.length c) (q := q.set k (.slice a3 64 c3, pad64 b)) (by rw [List.map_set, HQ.out]) ?_
          rw [bytesAll_set hkq, List.length_set, List.map_set]
          rw [bytesAll_at hkq] at H6
          simp only [List.length_replicate] at H6
          have H7 := (H6.ac (B := star (rowB q[k].1 q[k].2) (star (blk p _ _) (star (row tBytes 1 _ q.length _) (star (star (rowB _ (pad64 b)) (star (bytesAll (q.take k)) (bytesAll (q.drop (k + 1))))) L)))) (by simp only [pad64]; ac_rfl)).drop
          exact H7
    · have e0 : wFit S.length i b = false := by simp only [wFit, decide_eq_false_iff_not]; exact fun h => h1 h.2
      have e1 : wOk S.length left dead i b = false := by simp [wOk, e0]
      simp only [wS, wLeft, wDead, e1, e0, if_false, Bool.false_eq_true]
      have h2 : b.length ≠ 0 ∧ b.length ≠ 64 := ⟨fun h => h1 (.inl h), fun h => h1 (.inr h)⟩
      have hz : ((b.length : Int) != 0) = true := by rw [bne_iff_ne]; omega
      have hz2 : ((b.length : Int) != 64) = true := by rw [bne_iff_ne]; omega
      clear e0 e1
      go_enter Try.func101, Try.ntmps101
      go_wp2_with fail
      refine (there_spec H).mono ?_
      rintro e w1 ⟨rfl, rfl⟩
      rw [t0]
      go_wp2_with fail
      go_ret
      exact ⟨rfl, H⟩
  · have t0 : decide (0 ≤ i ∧ i < S.length) = false := by simpa using h0
    have e0 : wFit S.length i b = false := by simp only [wFit, decide_eq_false_iff_not]; exact fun h => h0 h.1
    have e1 : wOk S.length left dead i b = false := by simp [wOk, e0]
    simp only [wS, wLeft, wDead, e1, e0, if_false, Bool.false_eq_true]
    clear e0 e1
    go_enter Try.func101, Try.ntmps101
    go_wp2_with fail
    refine (there_spec H).mono ?_
    rintro e w1 ⟨rfl, rfl⟩
    rw [t0]
    go_wp2_with fail
    go_ret
    exact ⟨rfl, H⟩
end Sh
/- (*disk.Disk).Read. -/
set_option linter.unusedVariables false
set_option linter.unusedSimpArgs false
namespace Sh
open Go Go.RowKit Go.Proofs
attribute [local go_sem ↓] Go.wp_at_zero Go.wp_at_succ
set_option maxHeartbeats 1000000
set_option maxRecDepth 100000

def secAt (S : List (List UInt8)) (i : Int) : List UInt8 := if 0 ≤ i then S.getD i.toNat [] else []
theorem secAt_nat (S : List (List UInt8)) (k : Nat) : secAt S k = S.getD k [] := by simp [secAt]
theorem dread_spec {w : World} {R : Snap} {L : Asrt} {p : Nat} {S : List (List UInt8)} {left : Int} {dead : Bool} {i : Int} (H : Holds w R (star (diskS p S left dead) L)) (hS : ∀ s ∈ S, s.length ≤ 1000000) :
    Calls Try.prog 168 #[.pointer (some ⟨p, 0, none⟩), .int .i64 i] w fun e w' => ∃ v, e = .returned v ∧ Holds w' R (star (rowB v (secAt S i)) (star (diskS p S left dead) L)) := by
  by_cases h0 : 0 ≤ i ∧ i < S.length
  · have t0 : decide (0 ≤ i ∧ i < S.length) = true := by simpa using h0
    obtain ⟨k, rfl⟩ : ∃ k : Nat, i = k := ⟨i.toNat, by omega⟩
    have hk : k < S.length := by omega
    obtain ⟨q, a, c, hq, H1⟩ := disk_open H
    have hkq : k < q.length := by rw [← hq] at hk; simpa using hk
    obtain ⟨g, cg, ha, hcg, hg, hcell, hfro⟩ := H1.swap.rowAt (by omega)
    simp only [Value.slice.injEq, true_and] at ha
    obtain ⟨rfl, rfl⟩ := ha
    have ck := hcell k q[k].1 (by simp [hkq])
    have hr : RdB w.cell? q[k].1 q[k].2 := by
      have H2 := H1
      rw [bytesAll_at hkq] at H2
      exact (H2.ac (B := star (rowB q[k].1 q[k].2) (star (blk p _ _) (star (row tBytes 1 _ q.length (q.map (·.1))) (star (star (bytesAll (q.take k)) (bytesAll (q.drop (k + 1)))) L)))) (by ac_rfl)).rowRd
    have e1 : q[k].2 = secAt S k := by
      rw [secAt_nat, ← hq]; simp [List.getD, hkq]
    have hlen : q[k].2.length ≤ 1000000 := hS _ (by rw [← hq]; exact List.mem_map.2 ⟨_, List.getElem_mem hkq, rfl⟩)
    rw [← e1]
    obtain ⟨x, hx⟩ : ∃ x, x = q[k] := ⟨_, rfl⟩
    rw [← hx] at ck hr hlen ⊢
    clear e1 hcell hx
    obtain ⟨xv, xb⟩ := x
    obtain ⟨ax, cx, hax⟩ := hr.form
    simp only at hax
    subst hax
    obtain ⟨l1, n1, c1, z1⟩ := Holds.facts (H1)
    have i1 : (k : Int) < q.length := by omega
    have HQ := Hid.mk' hq
    clear hq hfro h0
    go_enter Try.func168, Try.ntmps168
    go_wp2_with fail
    refine (there_spec H).mono ?_
    rintro e w1 ⟨rfl, rfl⟩
    rw [t0]
    clear t0
    go_wp2_with fail
    refine (clone_spec H hr hlen).mono ?_
    rintro e w2 ⟨v2, rfl, H2⟩
    go_wp2_with fail
    go_ret
    exact ⟨_, rfl, H2⟩
  · have t0 : decide (0 ≤ i ∧ i < S.length) = false := by simpa using h0
    have e1 : secAt S i = [] := by
      unfold secAt
      split
      · rw [List.getD, List.getElem?_eq_none (by omega)]; rfl
      · rfl
    rw [e1]
    clear e1
    go_enter Try.func168, Try.ntmps168
    go_wp2_with fail
    refine (there_spec H).mono ?_
    rintro e w1 ⟨rfl, rfl⟩
    rw [t0]
    go_wp2_with fail
    go_ret
    exact ⟨_, rfl, H.nilRow _ 1⟩
end Sh
/- (*disk.Disk).Image. -/
set_option linter.unusedVariables false
set_option linter.unusedSimpArgs false
namespace Sh
open Go Go.RowKit Go.Proofs
attribute [local go_sem ↓] Go.wp_at_zero Go.wp_at_succ
set_option maxHeartbeats 1000000
set_option maxRecDepth 100000

theorem flatten_len {S : List (List UInt8)} (h : ∀ s ∈ S, s.length = 64) : S.flatten.length = 64 * S.length := by
  induction S with
  | nil => rfl
  | cons x S ih =>
    have h1 := h x List.mem_cons_self
    have h2 := ih fun s hs => h s (List.mem_cons_of_mem _ hs)
    simp only [List.flatten_cons, List.length_append, List.length_cons]
    omega
theorem dimage_spec {w : World} {R : Snap} {L : Asrt} {p : Nat} {S : List (List UInt8)} {left : Int} {dead : Bool} (H : Holds w R (star (diskS p S left dead) L)) (hS : ∀ s ∈ S, s.length = 64) (hl : S.length ≤ 1000) :
    Calls Try.prog 97 #[.pointer (some ⟨p, 0, none⟩)] w fun e w' => ∃ v, e = .returned v ∧ Holds w' R (star (rowB v S.flatten) (star (diskS p S left dead) L)) := by
  have HS := Hid.mk' hS
  have hS1 : Hid (∀ s ∈ S, s.length ≤ 1000000) := fun s hs => by rw [hS s hs]; decide
  clear hS
  go_enter Try.func97, Try.ntmps97
  go_wp2_with fail
  refine (size_spec H).mono ?_
  rintro e w1 ⟨rfl, rfl⟩
  go_wp2_with fail
  go_loopw [4, 10] (fun o i wx => ∃ j : Nat, i = .int .i64 j ∧ j ≤ S.length ∧ Holds wx R (star (rowB o (S.take j).flatten) (star (diskS p S left dead) L))) (fun _ i _ => S.length - (intOf i).toNat)
  case atStart => exact ⟨0, rfl, Nat.zero_le _, H.nilRow tU8 1⟩
  case round =>
    clear H
    obtain ⟨j, rfl, hj, H1⟩ := hrel
    by_cases hlt : j < S.length
    · have hf0 : (S.take (j + 1)).flatten = (S.take j).flatten ++ secAt S j := by
        rw [List.take_succ_eq_append_getElem hlt, List.flatten_append, secAt_nat]
        simp [List.getD, hlt]
      have hf := Hid.mk' hf0
      clear hf0
      have hb1 : (S.take j).flatten.length ≤ 64000 := by
        rw [flatten_len fun s hs => HS.out s (List.mem_of_mem_take hs), List.length_take]; omega
      have hb2 : (secAt S j).length ≤ 64 := by
        rw [secAt_nat, List.getD, List.getElem?_eq_getElem hlt]
        exact Nat.le_of_eq (HS.out _ (List.getElem_mem hlt))
      go_wp2_with (with_reducible refine stop_append ?_)
      refine (dread_spec H1.swap hS1.out).mono ?_
      rintro e w2 ⟨v2, rfl, H2⟩
      clear H1
      go_wp2_with (with_reducible refine stop_append ?_)
      refine Hold.go (wpList_appendB rfl _ _ rfl rfl rfl H2.pick3 H2.rowRd (by omega) ?_)
      intro v3 w3 H3
      clear H2
      go_wp2_with fail
      go_roundw
      case rel => exact ⟨j + 1, by go_num, hlt, by rw [hf.out]; exact H3.drop2⟩
      case measure => simp [intOf]; omega
    · go_wp2_with fail
      go_ret
      rw [List.take_of_length_le (by omega)] at H1
      exact ⟨_, rfl, H1⟩
end Sh
