/- msg.Put. -/
import Derived.Test.YtmogagcffebbaaaConvStr
import Derived.Test.YtmogagcffebbaaaCrc
set_option linter.unusedVariables false
set_option linter.unusedSimpArgs false
namespace Sh
open Go Go.RowKit Go.Proofs
attribute [local go_sem ↓] Go.wp_at_zero Go.wp_at_succ
set_option maxHeartbeats 1000000
set_option maxRecDepth 100000

theorem flatB_len {α : Type} {f : α → List UInt8} {k : Nat} (h : ∀ x, (f x).length = k) : ∀ l : List α, (l.flatMap f).length = l.length * k
  | [] => by simp
  | x :: l => by rw [List.flatMap_cons, List.length_append, h, flatB_len h l, List.length_cons, Nat.succ_mul]; omega
theorem txs_len {l : List ByteArray} (h : l.all nameOk = true) (j : Nat) : ((l.take j).flatMap txS).length ≤ 17 * j := by
  have key : ∀ (l : List ByteArray), (∀ s ∈ l, s.size ≤ 16) → (l.flatMap txS).length ≤ 17 * l.length := by
    intro l
    induction l with
    | nil => intro _; simp
    | cons x l ih =>
      intro hx
      have h1 := ih fun s hs => hx s (List.mem_cons_of_mem _ hs)
      have h2 := hx x List.mem_cons_self
      have h3 : (txS x).length ≤ 17 := by
        rw [txS, tx_small (by rw [strB_len]; omega), List.length_append, nb_length, strB_len]
        have : wid 1 = 1 := by decide
        omega
      rw [List.flatMap_cons, List.length_append, List.length_cons]
      omega
  have h1 := key (l.take j) fun s hs => nameOk_len (List.all_eq_true.1 h s (List.mem_of_mem_take hs))
  have h2 : (l.take j).length ≤ j := by rw [List.length_take]; omega
  omega
theorem wid_1 : wid 1 = 1 := by decide
theorem wid_2 : wid 2 = 2 := by decide
theorem wid_4 : wid 4 = 4 := by decide
theorem mput_bad {w : World} {R : Snap} {L : Asrt} {pt : Option Addr} (m : Ms) (H : Holds w R L) (hm : m.Rd R.cell?) (hz : m.Sz) (hok : msgOk m = false) :
    Calls Try.prog 52 #[.pointer pt, .agg m.cells.toArray] w fun e w' => e = .returned (.tuple #[.slice none 0 0, .int .i64 3]) ∧ Holds w' R L := by
  have HM := Hid.mk' hm
  have HZ := Hid.mk' hz
  have HOK := Hid.mk' hok
  obtain ⟨kind, from_, to_, ballot, name, attempt, epoch, mark, size, what, vw, vn, vd, who, names, data⟩ := m
  obtain ⟨hw, hn, hd⟩ := hm
  obtain ⟨z1, z2, z3, z4, z5⟩ := hz
  simp only at z1 z2 z3 z4 z5 hw hn hd
  obtain ⟨aw, cw, rfl⟩ := hw.form
  obtain ⟨an, cn, rfl⟩ := hn.form
  obtain ⟨ad, cd, rfl⟩ := hd.form
  obtain ⟨R1, le1, H1, hb⟩ := H.allocR (.cells #[.int .i64 kind, .int .i64 from_, .int .i64 to_, .int .i64 ballot, .string name, .int .i64 attempt, .int .i64 epoch, .int .i64 mark, .int .i64 size, .int .i64 what, .slice aw who.length cw, .slice an names.length cn, .slice ad data.length cd] tMsg (0, 0))
  clear hw hn hd hok H
  obtain ⟨l1, n1, c1⟩ := Holds.frzFacts (H1) hb
  show Calls _ _ #[.pointer pt, .agg #[.int .i64 kind, .int .i64 from_, .int .i64 to_, .int .i64 ballot, .string name, .int .i64 attempt, .int .i64 epoch, .int .i64 mark, .int .i64 size, .int .i64 what, .slice aw who.length cw, .slice an names.length cn, .slice ad data.length cd]] _ _
  go_enter Try.func52, Try.ntmps52
  go_wp2_with fail
  refine (right25_spec (⟨kind, from_, to_, ballot, name, attempt, epoch, mark, size, what, .slice aw who.length cw, .slice an names.length cn, .slice ad data.length cd, who, names, data⟩ : Ms) H1 (fun w' h => (HM.out.le le1).world h) HZ.out).mono ?_
  rintro e w2 ⟨rfl, H2⟩
  rw [HOK.out]
  go_wp2_with fail
  go_ret2
  exact ⟨rfl, H2.weaken le1⟩
theorem mput_gen {w : World} {R : Snap} {L : Asrt} {pt : Option Addr} (g : List UInt8 → List UInt8) (m : Ms) (H : Holds w R L) (hm : m.Rd R.cell?) (hz : m.Sz) (hok : msgOk m = true) (hseal : ∀ (w : World) (R' : Snap) (L' : Asrt) (v : Value) (b : List UInt8), R.le R' → Holds w R' L' → RdB R'.cell? v b → b.length ≤ 1000000 → Calls Try.prog 117 #[.pointer pt, v] w fun e w' => ∃ o, e = .returned o ∧ Holds w' R' (star (rowB o (g b)) L')) :
    Calls Try.prog 52 #[.pointer pt, .agg m.cells.toArray] w fun e w' => ∃ o, e = .returned (.tuple #[o, .int .i64 0]) ∧ Holds w' R (star (rowB o (g (bodyB m))) L) := by
  have HM := Hid.mk' hm
  have HZ := Hid.mk' hz
  have HOK := Hid.mk' hok
  have hk := hok
  simp only [msgOk, Bool.and_eq_true, decide_eq_true_eq, Bool.or_eq_true] at hk
  obtain ⟨⟨⟨⟨⟨⟨⟨⟨⟨⟨k1, k2⟩, k3⟩, k4⟩, k5⟩, k6⟩, k7⟩, k8⟩, k9⟩, k10⟩, k11⟩ := hk
  have f1 := inAll_mem k4 (x := m.from_) (by simp)
  have f2 := inAll_mem k4 (x := m.to_) (by simp)
  have f3 := inAll_mem k5 (x := m.ballot) (by simp)
  have f4 := inAll_mem k5 (x := m.attempt) (by simp)
  have f5 := inAll_mem k5 (x := m.epoch) (by simp)
  have f6 := inAll_mem k5 (x := m.mark) (by simp)
  have f7 := inAll_mem k7 (x := m.size) (by simp)
  have f8 := inAll_mem k7 (x := (m.data.length : Int)) (by simp)
  have f9 := inAll_mem k8 (x := m.what) (by simp)
  have f10 := inAll_mem k8 (x := (m.who.length : Int)) (by simp)
  obtain ⟨kind, from_, to_, ballot, name, attempt, epoch, mark, size, what, vw, vn, vd, who, names, data⟩ := m
  obtain ⟨hw, hn, hd⟩ := hm
  obtain ⟨z1, z2, z3, z4, z5⟩ := hz
  simp only at z1 z2 z3 z4 z5 hw hn hd
  obtain ⟨aw, cw, rfl⟩ := hw.form
  obtain ⟨an, cn, rfl⟩ := hn.form
  obtain ⟨ad, cd, rfl⟩ := hd.form
  simp only at k1 k2 k6 k9 k10 k11 f1 f2 f3 f4 f5 f6 f7 f8 f9 f10
  obtain ⟨R1, le1, H1, hb⟩ := H.allocR (.cells #[.int .i64 kind, .int .i64 from_, .int .i64 to_, .int .i64 ballot, .string name, .int .i64 attempt, .int .i64 epoch, .int .i64 mark, .int .i64 size, .int .i64 what, .slice aw who.length cw, .slice an names.length cn, .slice ad data.length cd] tMsg (0, 0))
  have HW := Hid.mk' (Rd.le hw le1)
  have HN := Hid.mk' (Rd.le hn le1)
  have HD := Hid.mk' (Rd.le hd le1)
  have HS := Hid.mk' hseal
  have K6 := Hid.mk' k6
  have K10 := Hid.mk' k10
  clear hw hn hd hok H k3 k4 k5 k7 k8 hseal k6 k10
  obtain ⟨l1, n1, c1⟩ := Holds.frzFacts (H1) hb
  show Calls _ _ #[.pointer pt, .agg #[.int .i64 kind, .int .i64 from_, .int .i64 to_, .int .i64 ballot, .string name, .int .i64 attempt, .int .i64 epoch, .int .i64 mark, .int .i64 size, .int .i64 what, .slice aw who.length cw, .slice an names.length cn, .slice ad data.length cd]] _ _
  go_enter Try.func52, Try.ntmps52
  go_wp2_with fail
  refine (right25_spec (⟨kind, from_, to_, ballot, name, attempt, epoch, mark, size, what, .slice aw who.length cw, .slice an names.length cn, .slice ad data.length cd, who, names, data⟩ : Ms) H1 (fun w' h => (HM.out.le le1).world h) HZ.out).mono ?_
  rintro e w2 ⟨rfl, H2⟩
  rw [HOK.out]
  clear H1 l1 n1 c1
  have H3 : Holds _ R1 (star (wr _ []) L) := wr_shut (((H2.alloc #[.slice none 0 0] 153).nilRow tU8 1).swap)
  go_wp2_with fail
  generalize (World.alloc ..) = w3 at H3 ⊢
  generalize w2.heap.size = pw at H3 ⊢
  clear H2
  refine (num_spec H3 (by simp) (by omega)).mono ?_
  rintro e w4 ⟨rfl, H4⟩
  rw [List.nil_append] at H4
  clear H3
  obtain ⟨l4, n4, c4⟩ := Holds.frzFacts (H4) hb
  go_wp2_with fail
  refine (num_spec H4 (by simp [nb_length, wid_1, wid_2, wid_4]) (by omega)).mono ?_
  rintro e w5 ⟨rfl, H5⟩
  clear H4 l4 n4 c4
  obtain ⟨l5, n5, c5⟩ := Holds.frzFacts (H5) hb
  go_wp2_with fail
  refine (num_spec H5 (by simp [nb_length, wid_1, wid_2, wid_4]) (by omega)).mono ?_
  rintro e w6 ⟨rfl, H6⟩
  clear H5 l5 n5 c5
  obtain ⟨l6, n6, c6⟩ := Holds.frzFacts (H6) hb
  go_wp2_with fail
  refine (num_spec H6 (by simp [nb_length, wid_1, wid_2, wid_4]) (by omega)).mono ?_
  rintro e w7 ⟨rfl, H7⟩
  clear H6 l6 n6 c6
  obtain ⟨l7, n7, c7⟩ := Holds.frzFacts (H7) hb
  go_wp2_with fail
  refine (num_spec H7 (by simp [nb_length, wid_1, wid_2, wid_4]) (by omega)).mono ?_
  rintro e w8 ⟨rfl, H8⟩
  clear H7 l7 n7 c7
  obtain ⟨l8, n8, c8⟩ := Holds.frzFacts (H8) hb
  obtain ⟨as8, cs8, w9, hconv, R9, le9, H9, hs9⟩ := convBytes H8 z1
  clear l8 n8 c8
  obtain ⟨l8, n8, c8⟩ := Holds.frzFacts (H8) hb
  go_wp2_with fail
  have hlen9 : (strB name).length ≤ 1000000 := by
    rw [strB_len]
    rcases k11 with k | k
    · omega
    · have := nameOk_len k; omega
  refine (text_spec H9 (by simp [nb_length, wid_1, wid_2, wid_4]) hlen9 hs9).mono ?_
  rintro e w10 ⟨rfl, H10⟩
  have hb10 := le9.blk _ _ hb
  clear H8 H9 hconv l8 n8 c8
  have e10 : nb 1 77 ++ nb 1 kind ++ nb 2 from_ ++ nb 2 to_ ++ nb 4 ballot ++ nb 1 (min (strB name).length 255 : Nat) ++ (strB name).take 255 = nb 1 77 ++ (nb 1 kind ++ (nb 2 from_ ++ (nb 2 to_ ++ (nb 4 ballot ++ txS name)))) := by
    simp only [List.append_assoc, txS, tx]
  rw [e10] at H10
  obtain ⟨T, hT⟩ : ∃ T, T = nb 1 77 ++ (nb 1 kind ++ (nb 2 from_ ++ (nb 2 to_ ++ (nb 4 ballot ++ txS name)))) := ⟨_, rfl⟩
  have hTl : T.length ≤ 2000 := by
    rw [hT]; simp [nb_length, wid_1, wid_2, wid_4, txS, tx]; omega
  rw [← hT] at H10
  have HT := Hid.mk' hT
  clear hT e10
  obtain ⟨l10, n10, c10⟩ := Holds.frzFacts (H10) hb10
  have H11 := H10.alloc #[.int .i64 attempt, .int .i64 epoch, .int .i64 mark] tInt
  obtain ⟨R11, le11, H12, hb11⟩ := H11.freezeBlk
  have hb12 := le11.blk _ _ hb10
  clear H11
  have R11w : RdI R11.cell? (.slice (some ⟨w10.heap.size, 0, none⟩) 3 3) [attempt, epoch, mark] := by
    refine ⟨_, _, rfl, Nat.le_refl _, by decide, rfl, (fun e => by cases e), ?_⟩
    intro b' o' s e j u hu
    simp only [Option.some.injEq, Addr.mk.injEq] at e
    obtain ⟨rfl, rfl, rfl⟩ := e
    refine ⟨rfl, ?_⟩
    unfold Snap.cell?
    simp only [hb11, Nat.zero_add]
    simpa using hu
  have HR3 := Hid.mk' R11w
  have hle3 : ∀ x ∈ [attempt, epoch, mark], x ≤ 4294967295 := by
    intro x hx
    simp only [List.mem_cons, List.not_mem_nil, or_false] at hx
    rcases hx with rfl | rfl | rfl <;> omega
  have HL3 := Hid.mk' hle3
  clear R11w hle3
  have hgr : (World.alloc w10 (.cells #[.int .i64 attempt, .int .i64 epoch, .int .i64 mark] tInt)) = World.alloc w10 (.cells #[.int .i64 attempt, .int .i64 epoch, .int .i64 mark] tInt) := rfl
  go_wp2_with fail
  go_loopw [48] (fun i wx => ∃ j : Nat, i = .int .i64 j ∧ j ≤ 3 ∧ Holds wx R11 (star (wr pw (T ++ ([attempt, epoch, mark].take j).flatMap (nb 4))) L)) (fun i _ => 3 - (intOf i).toNat)
  case atStart => exact ⟨0, rfl, by omega, by simpa using H12⟩
  case round =>
    clear H12 l10 n10 c10 H10 hgr
    obtain ⟨j, rfl, hj, H13⟩ := hrel
    by_cases hlt : j < 3
    · have hjl : j < [attempt, epoch, mark].length := hlt
      obtain ⟨b1, o1, ha, hc⟩ := rdI_at (Rd.world HR3.out H13) hjl
      simp only [Option.some.injEq, Addr.mk.injEq] at ha
      obtain ⟨rfl, rfl, _⟩ := ha
      have hx := HL3.out _ (List.getElem_mem hjl)
      have i1 : (j : Int) < 3 := by omega
      have i0 : (0 : Int) ≤ (j : Int) := by omega
      have hs : Hid (([attempt, epoch, mark].take (j + 1)).flatMap (nb 4) = ([attempt, epoch, mark].take j).flatMap (nb 4) ++ nb 4 ([attempt, epoch, mark][j])) := Hid.mk' (by
        rw [List.take_succ_eq_append_getElem hjl, List.flatMap_append]; simp)
      have hl9 : (T ++ ([attempt, epoch, mark].take j).flatMap (nb 4)).length ≤ 1000000 := by
        rw [List.length_append, flatB_len (k := 4) (fun x => by rw [nb_length, wid_4]), List.length_take]; omega
      generalize [attempt, epoch, mark][j] = x at hc hx hs
      rw [Nat.zero_add] at hc
      go_wp2_with fail
      refine (num_spec (n := x) H13 hl9 (by omega)).mono ?_
      rintro e w14 ⟨rfl, H14⟩
      go_wp2_with fail
      go_roundw
      case rel => exact ⟨j + 1, by go_num, hlt, by rw [hs.out, ← List.append_assoc]; exact H14⟩
      case measure => simp [intOf]; omega
    · obtain rfl : j = 3 := by omega
      have e14 : T ++ ([attempt, epoch, mark].take 3).flatMap (nb 4) = T ++ (nb 4 attempt ++ (nb 4 epoch ++ nb 4 mark)) := by simp
      rw [e14] at H13
      clear e14
      obtain ⟨l13, n13, c13⟩ := Holds.frzFacts (H13) hb12
      go_wp2_with fail
      refine (num_spec (n := size) H13 (by simp [nb_length, wid_4]; omega) (by omega)).mono ?_
      rintro e w15 ⟨rfl, H15⟩
      clear H13 l13 n13 c13
      obtain ⟨l13, n13, c13⟩ := Holds.frzFacts (H15) hb12
      go_wp2_with fail
      refine (num_spec (n := what) H15 (by simp [nb_length, wid_4, wid_2]; omega) (by omega)).mono ?_
      rintro e w16 ⟨rfl, H16⟩
      clear H15 l13 n13 c13
      obtain ⟨l13, n13, c13⟩ := Holds.frzFacts (H16) hb12
      go_wp2_with fail
      refine (num_spec (n := (who.length : Int)) H16 (by simp [nb_length, wid_4, wid_2, wid_1]; omega) (by omega)).mono ?_
      rintro e w17 ⟨rfl, H17⟩
      clear H16 l13 n13 c13
      have e17 : T ++ (nb 4 attempt ++ (nb 4 epoch ++ nb 4 mark)) ++ nb 2 size ++ nb 1 what ++ nb 1 (who.length : Int) = T ++ (nb 4 attempt ++ (nb 4 epoch ++ (nb 4 mark ++ (nb 2 size ++ (nb 1 what ++ nb 1 (who.length : Int)))))) := by simp only [List.append_assoc]
      rw [e17] at H17
      obtain ⟨T2, hT2⟩ : ∃ T2, T2 = T ++ (nb 4 attempt ++ (nb 4 epoch ++ (nb 4 mark ++ (nb 2 size ++ (nb 1 what ++ nb 1 (who.length : Int)))))) := ⟨_, rfl⟩
      have hT2l : T2.length ≤ 4000 := by rw [hT2]; simp [nb_length, wid_4, wid_2, wid_1]; omega
      rw [← hT2] at H17
      have HT2 := Hid.mk' hT2
      clear hT2 e17
      obtain ⟨l13, n13, c13⟩ := Holds.frzFacts (H17) hb12
      obtain ⟨nw, hnw⟩ : ∃ nw, nw = who.length := ⟨_, rfl⟩
      have HNW := Hid.mk' hnw
      have hnw9 : nw ≤ 255 := by omega
      rw [← hnw] at c13
      have HWR : Hid (RdI R11.cell? (.slice aw nw cw) who) := Hid.mk' (by rw [hnw]; exact Rd.le HW.out (le9.trans le11))
      have HB12 : Hid (R11.blk w.heap.size = some (.cells #[.int .i64 kind, .int .i64 from_, .int .i64 to_, .int .i64 ballot, .string name, .int .i64 attempt, .int .i64 epoch, .int .i64 mark, .int .i64 size, .int .i64 what, .slice aw who.length cw, .slice an names.length cn, .slice ad data.length cd] tMsg (0, 0))) := Hid.mk' hb12
      have hbw : R11.blk w.heap.size = some (.cells #[.int .i64 kind, .int .i64 from_, .int .i64 to_, .int .i64 ballot, .string name, .int .i64 attempt, .int .i64 epoch, .int .i64 mark, .int .i64 size, .int .i64 what, .slice aw nw cw, .slice an names.length cn, .slice ad data.length cd] tMsg (0, 0)) := by rw [hnw]; exact hb12
      clear hnw hb12
      go_wp2_with fail
      go_loopw [72] (fun i wx => ∃ j : Nat, i = .int .i64 j ∧ j ≤ nw ∧ Holds wx R11 (star (Sh.wr pw (T2 ++ (who.take j).flatMap (nb 4))) L)) (fun i _ => nw - (intOf i).toNat)
      case atStart => exact ⟨0, rfl, Nat.zero_le _, by simpa using H17⟩
      case round =>
        clear H17 l13 n13 c13
        obtain ⟨j, rfl, hj, H18⟩ := hrel
        by_cases hlt2 : j < nw
        · have hjl : j < who.length := by rw [← HNW.out]; exact hlt2
          obtain ⟨b1, o1, ha, hc⟩ := rdI_at (Rd.world HWR.out H18) hjl
          subst ha
          have hx := (inAll_mem K6.out (List.getElem_mem hjl)).2
          have hs : Hid ((who.take (j + 1)).flatMap (nb 4) = (who.take j).flatMap (nb 4) ++ nb 4 (who[j])) := Hid.mk' (by
            rw [List.take_succ_eq_append_getElem hjl, List.flatMap_append]; simp)
          have hl9 : (T2 ++ (who.take j).flatMap (nb 4)).length ≤ 1000000 := by
            rw [List.length_append, flatB_len (k := 4) (fun x => by rw [nb_length, wid_4]), List.length_take]; omega
          generalize who[j] = x at hc hx hs
          go_wp2_with fail
          refine (num_spec (n := x) H18 hl9 (by omega)).mono ?_
          rintro e w19 ⟨rfl, H19⟩
          go_wp2_with fail
          go_roundw
          case rel => exact ⟨j + 1, by go_num, hlt2, by rw [hs.out, ← List.append_assoc]; exact H19⟩
          case measure => simp [intOf]; omega
        · rw [List.take_of_length_le (by have := HNW.out; omega)] at H18
          obtain ⟨T3, hT3⟩ : ∃ T3, T3 = T2 ++ who.flatMap (nb 4) := ⟨_, rfl⟩
          have hT3l : T3.length ≤ 6000 := by
            rw [hT3, List.length_append, flatB_len (k := 4) (fun x => by rw [nb_length, wid_4])]
            have := HNW.out
            omega
          rw [← hT3] at H18
          have HT3 := Hid.mk' hT3
          clear hT3
          obtain ⟨l13, n13, c13⟩ := Holds.frzFacts (H18) hbw
          go_wp2_with fail
          refine (num_spec (n := (names.length : Int)) H18 (by omega) (by omega)).mono ?_
          rintro e w20 ⟨rfl, H20⟩
          clear H18 l13 n13 c13
          obtain ⟨l13, n13, c13⟩ := Holds.frzFacts (H20) hbw
          obtain ⟨T4, hT4⟩ : ∃ T4, T4 = T3 ++ nb 1 (names.length : Int) := ⟨_, rfl⟩
          have hT4l : T4.length ≤ 6001 := by rw [hT4]; simp [nb_length, wid_1]; omega
          rw [← hT4] at H20
          have HT4 := Hid.mk' hT4
          obtain ⟨nn, hnn⟩ : ∃ nn, nn = names.length := ⟨_, rfl⟩
          have HNN := Hid.mk' hnn
          have hnn9 : nn ≤ 8 := by omega
          have hbn : R11.blk w.heap.size = some (.cells #[.int .i64 kind, .int .i64 from_, .int .i64 to_, .int .i64 ballot, .string name, .int .i64 attempt, .int .i64 epoch, .int .i64 mark, .int .i64 size, .int .i64 what, .slice aw nw cw, .slice an nn cn, .slice ad data.length cd] tMsg (0, 0)) := by rw [hnn]; exact hbw
          rw [← hnn] at c13
          have HNR : Hid (RdS R11.cell? (.slice an nn cn) names) := Hid.mk' (by rw [hnn]; exact Rd.le HN.out (le9.trans le11))
          clear hnn hT4 hbw
          go_wp2_with fail
          go_loopw [88] (fun i wx => ∃ (j : Nat) (R12 : Snap), i = .int .i64 j ∧ j ≤ nn ∧ R11.le R12 ∧ Holds wx R12 (star (Sh.wr pw (T4 ++ (names.take j).flatMap txS)) L)) (fun i _ => nn - (intOf i).toNat)
          case atStart => exact ⟨0, R11, rfl, Nat.zero_le _, Snap.le.refl _, by simpa using H20⟩
          case round =>
            clear H20 l13 n13 c13
            obtain ⟨j, R12, rfl, hj, le12, H21⟩ := hrel
            by_cases hlt3 : j < nn
            · have hjl : j < names.length := by rw [← HNN.out]; exact hlt3
              obtain ⟨b1, o1, ha, hc⟩ := rdS_at (Rd.world (Rd.le HNR.out le12) H21) hjl
              subst ha
              have hx16 := nameOk_len (List.all_eq_true.1 K10.out _ (List.getElem_mem hjl))
              have hxm := z2 _ (List.getElem_mem hjl)
              have hs : Hid ((names.take (j + 1)).flatMap txS = (names.take j).flatMap txS ++ txS (names[j])) := Hid.mk' (by
                rw [List.take_succ_eq_append_getElem hjl, List.flatMap_append]; simp)
              have hl9 : (T4 ++ (names.take j).flatMap txS).length ≤ 900000 := by
                rw [List.length_append]
                have := txs_len K10.out j
                omega
              generalize names[j] = x at hc hx16 hxm hs
              obtain ⟨a9, c9, w22, hconv, R22, le22, H22, hs22⟩ := convBytes H21 hxm
              go_wp2_with fail
              refine (text_spec H22 hl9 (by rw [strB_len]; omega) hs22).mono ?_
              rintro e w23 ⟨rfl, H23⟩
              clear hconv
              go_wp2_with fail
              go_roundw
              case rel =>
                refine ⟨j + 1, R22, by go_num, hlt3, le12.trans le22, ?_⟩
                rw [hs.out, ← List.append_assoc, txS, tx, ← List.append_assoc]; exact H23
              case measure => simp [intOf]; omega
            · rw [List.take_of_length_le (by have := HNN.out; omega)] at H21
              have hb13 := le12.blk _ _ hbn
              obtain ⟨T5, hT5⟩ : ∃ T5, T5 = T4 ++ names.flatMap txS := ⟨_, rfl⟩
              have hT5l : T5.length ≤ 10000 := by
                rw [hT5, List.length_append]
                have := txs_len K10.out names.length
                rw [List.take_length] at this
                have := HNN.out
                omega
              rw [← hT5] at H21
              have HT5 := Hid.mk' hT5
              clear hT5
              obtain ⟨l13, n13, c13⟩ := Holds.frzFacts (H21) hb13
              go_wp2_with fail
              refine (text_spec H21 (by omega) z5 (Rd.le HD.out ((le9.trans le11).trans le12))).mono ?_
              rintro e w24 ⟨rfl, H24⟩
              clear H21 l13 n13 c13
              have e24 : T5 ++ nb 1 (min data.length 255 : Nat) ++ data.take 255 = bodyB (⟨kind, from_, to_, ballot, name, attempt, epoch, mark, size, what, .slice aw who.length cw, .slice an names.length cn, .slice ad data.length cd, who, names, data⟩ : Ms) := by
                rw [HT5.out, HT4.out, HT3.out, HT2.out, HT.out]
                simp only [bodyB, bodyS, tx, List.append_assoc, List.append_nil]
              rw [e24] at H24
              have hbl : (bodyB (⟨kind, from_, to_, ballot, name, attempt, epoch, mark, size, what, .slice aw who.length cw, .slice an names.length cn, .slice ad data.length cd, who, names, data⟩ : Ms)).length ≤ 1000000 := by
                rw [← e24]; simp [nb_length, wid_1]; omega
              clear e24
              go_wp2_with fail
              refine (bytes_spec H24 hbl).mono ?_
              rintro e w25 ⟨v25, rfl, H25⟩
              obtain ⟨R26, le26, H26, hr26⟩ := H25.freezeRow
              have leA := (((le1.trans le9).trans le11).trans le12).trans le26
              go_wp2_with fail
              refine (HS.out _ _ _ _ _ leA H26 hr26 hbl).mono ?_
              rintro e w27 ⟨o, rfl, H27⟩
              go_wp2_with fail
              go_ret2
              exact ⟨o, rfl, (H27.drop2).weaken leA⟩
theorem mput_ok {w : World} {R : Snap} {L : Asrt} {p : Nat} (m : Ms) (H : Holds w R L) (hT : R.blk p = some (.cells (rowC 256) tabT (0, 0))) (hm : m.Rd R.cell?) (hz : m.Sz) (hok : msgOk m = true) :
    Calls Try.prog 52 #[.pointer (some ⟨p, 0, none⟩), .agg m.cells.toArray] w fun e w' => ∃ o, e = .returned (.tuple #[o, .int .i64 0]) ∧ Holds w' R (star (rowB o (putM m)) L) :=
  mput_gen sealB m H hm hz hok fun w R' L' v b le H hr hb => seal_crc H (le.blk _ _ hT) hr hb
theorem mput_nil {w : World} {R : Snap} {L : Asrt} (m : Ms) (H : Holds w R L) (hm : m.Rd R.cell?) (hz : m.Sz) (hok : msgOk m = true) :
    Calls Try.prog 52 #[.pointer none, .agg m.cells.toArray] w fun e w' => ∃ o, e = .returned (.tuple #[o, .int .i64 0]) ∧ Holds w' R (star (rowB o (bodyB m)) L) :=
  mput_gen id m H hm hz hok fun w R' L' v b le H hr hb => seal_nil H hr hb
end Sh
