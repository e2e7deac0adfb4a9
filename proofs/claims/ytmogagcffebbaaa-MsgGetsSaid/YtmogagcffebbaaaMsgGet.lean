/- msg.Get. -/
import Derived.Test.YtmogagcffebbaaaMsgManyS
import Derived.Test.YtmogagcffebbaaaBytesEq
import Derived.Test.YtmogagcffebbaaaBagTake
import Derived.Laws.EntriesVeiled
set_option linter.unusedVariables false
set_option linter.unusedSimpArgs false
namespace Sh
open Go Go.RowKit Go.Proofs
attribute [local go_sem ↓] Go.wp_at_zero Go.wp_at_succ
set_option maxHeartbeats 1000000
set_option maxRecDepth 100000

theorem cutOut_le (l : List UInt8) (b : Bool) (n : Nat) : (cutOut l b n).length ≤ n := by
  unfold cutOut; split
  · rw [List.length_take]; omega
  · simp
theorem pText_lt (s : PSt) : (pText s).1.length ≤ 255 := by
  have h1 : (pText s).1.length ≤ (pNum 1 s).1 := cutOut_le _ _ _
  have := pNum1_lt s
  omega
theorem pMany_len {α : Type} (f : PSt → α × PSt) : ∀ (n : Nat) (s : PSt), (pMany f n s).1.length ≤ n
  | 0, s => by simp [pMany]
  | n + 1, s => by
    rw [pMany]
    split
    · simp
    · simp only [List.length_cons]; have := pMany_len f n (f s).2; omega
theorem pMany_all {α : Type} {f : PSt → α × PSt} {Q : α → Prop} (h : ∀ s, Q (f s).1) : ∀ (n : Nat) (s : PSt), ∀ x ∈ (pMany f n s).1, Q x
  | 0, s => by simp [pMany]
  | n + 1, s => by
    rw [pMany]
    split
    · simp
    · intro x hx
      rcases List.mem_cons.1 hx with rfl | hx
      · exact h s
      · exact pMany_all h n _ x hx
theorem pMany_le {α : Type} {f : PSt → α × PSt} (h : ∀ s, (f s).2.1.length ≤ s.1.length) : ∀ (n : Nat) (s : PSt), (pMany f n s).2.1.length ≤ s.1.length
  | 0, s => Nat.le_refl _
  | n + 1, s => by
    rw [pMany]
    split
    · exact Nat.le_refl _
    · exact Nat.le_trans (pMany_le h n _) (h s)
abbrev msZero : Ms := ⟨0, 0, 0, 0, ⟨#[]⟩, 0, 0, 0, 0, 0, .slice none 0 0, .slice none 0 0, .slice none 0 0, [], [], []⟩
theorem ms_zero_Sz : msZero.Sz := ⟨by decide, by simp, Nat.zero_le _, Nat.zero_le _, Nat.zero_le _⟩
set_option maxHeartbeats 3000000
theorem mget_good {w : World} {R : Snap} {L : Asrt} {p : Nat} {vx : Value} {x b : List UInt8} (H : Holds w R L) (hT : R.blk p = some (.cells (rowC 256) tabT (0, 0))) (hx : RdB R.cell? vx x) (hn : x.length ≤ 1000000) (h4 : 4 ≤ x.length) (hg : goodB x = true) (hb : b = x.take (x.length - 4)) (code : Int) (m : Ms) (hcode : code = if msgOk (gotM b) && decide (putM (gotM b) = x) then 0 else 3) (hm : m = if msgOk (gotM b) && decide (putM (gotM b) = x) then gotM b else msZero) :
    Calls Try.prog 56 #[.pointer (some ⟨p, 0, none⟩), vx] w fun e w' => ∃ R', R.le R' ∧ ∃ M : Ms, e = .returned (.tuple #[.agg M.cells.toArray, .int .i64 code]) ∧ M.con = m.con ∧ M.Rd R'.cell? ∧ M.Sz ∧ Holds w' R' L := by
  have HX := Hid.mk' hx
  have HC := Hid.mk' hcode
  have HM := Hid.mk' hm
  obtain ⟨ax, cx, rfl⟩ := hx.form
  have hB := hx.bounds
  obtain ⟨N, hN⟩ : ∃ N, N = x.length := ⟨_, rfl⟩
  rw [← hN] at hx hB ⊢
  obtain ⟨n, hnn⟩ : ∃ n, n = N - 4 := ⟨_, rfl⟩
  have hbz : (N : Int) - 4 = n := by omega
  have hnw : wrap64 (n : Int) = (n : Int) := IntWalk.wrap64_in _ (by omega)
  have hnt : ((n : Int)).toNat = n := Int.toNat_natCast n
  have i1 : (0 : Int) ≤ (n : Int) := by omega
  have i2 : (n : Int) ≤ (cx : Int) := by omega
  have hx : RdB R.cell? (.slice ax N cx) x := hx
  have hx0 : RdB R.cell? (.slice ax x.length cx) x := by rw [← hN]; exact hx
  have hpre := RdB.pre hx0 n (by omega)
  rw [← hN, ← hnn] at hb
  rw [← hb] at hpre
  have hbl : b.length ≤ 1000000 := by rw [hb, List.length_take]; omega
  have t0 : (decide ((n : Int) < 0)) = false := by simp
  have HG := Hid.mk' hg
  have HBL := Hid.mk' hbl
  have H1 := H.alloc zeroMs tMsg
  have HN := Hid.mk' hN
  clear H hg hnn hb hcode hm hN hx0
  go_enter Try.func56, Try.ntmps56
  go_wp2_with fail
  generalize (World.alloc ..) = w1 at H1 ⊢
  generalize w.heap.size = z at H1 ⊢
  refine (good_crc H1 hT hx hn).mono ?_
  rintro e w2 ⟨rfl, H2⟩
  rw [HG.out]
  clear H1
  go_wp2_with fail
  refine (read_spec H2 hpre).mono ?_
  rintro e w3 ⟨p3, rfl, H3⟩
  clear H2
  obtain ⟨R4, le4, H4, hb6⟩ := H3.allocR (.cells #[.pointer (some ⟨p3, 0, none⟩)] 158 (0, 0))
  obtain ⟨R5, le5, H5, hb7⟩ := H4.allocR (.cells #[.func (.func 127) #[.pointer (some ⟨p3, 0, none⟩)] #[]] 111 (0, 0))
  have hb6 := le5.blk _ _ hb6
  have hr0 := Rd.le hpre (le4.trans le5)
  have leA := le4.trans le5
  simp only [World.size_alloc] at hb7
  have hT5 := leA.blk _ _ hT
  clear H3 H4 hpre hT le4 le5

  go_wp2_with fail
  generalize (World.alloc ..) = w5 at H5 ⊢
  generalize w3.heap.size + 1 = g7 at *
  generalize w3.heap.size = g6 at *
  clear i1 i2 hbz t0 hB hnw hnt
  refine (rd_num (s := (b, false)) (k := 1) (by decide) H5 hr0).mono ?_
  rintro e w6 ⟨v1, rfl, H6, hr1⟩
  have hl1 := Nat.le_trans (pNum_le 1 (b, false)) HBL.out
  obtain ⟨a0, ha⟩ : ∃ a, a = pNum 1 (b, false) := ⟨_, rfl⟩
  rw [← ha] at H6 hr1 hl1
  have A0 := Hid.mk' ha
  clear ha H5 hr0
  obtain ⟨l7, n7, c7⟩ := Holds.frzFacts (H6) hb7
  have H7 := (H6.alloc zeroMs tMsg).swap
  go_wp2_with fail
  generalize (World.alloc ..) = w7 at H7 ⊢
  generalize w6.heap.size = g9 at H7 ⊢
  clear H6 l7 n7 c7
  refine (rd_num (k := 1) (by decide) H7 hr1).mono ?_
  rintro e w8 ⟨v2, rfl, H8, hr2⟩
  have hl2 := Nat.le_trans (pNum_le 1 a0.2) hl1
  obtain ⟨a1, ha⟩ : ∃ a, a = pNum 1 a0.2 := ⟨_, rfl⟩
  rw [← ha] at H8 hr2 hl2 ⊢
  have A1 := Hid.mk' ha
  clear ha H7 hr1 hl1
  obtain ⟨l8, n8, c8, z8⟩ := Holds.facts (H8.swap)
  go_upto_region 9 with fail
  have H9 := (H8.swap.set 0 (.int .i64 ((a1.1 : Nat) : Int))).swap
  replace H9 : Holds _ R5 (star (blk p3 #[v2, .bool a1.2.2] rdrT) (star (blk g9 #[.int .i64 ((a1.1 : Nat) : Int), .int .i64 0, .int .i64 0, .int .i64 0, .string ⟨#[]⟩, .int .i64 0, .int .i64 0, .int .i64 0, .int .i64 0, .int .i64 0, .slice none 0 0, .slice none 0 0, .slice none 0 0] tMsg) (star (blk z zeroMs tMsg) L))) := H9
  clear H8 l8 n8 c8 z8
  generalize (World.setCell ..) = w9 at H9 ⊢
  have H7 := H9
  have hr1 := hr2
  have hl1 := hl2
  clear H9 hr2 hl2
  obtain ⟨l6, n6, c6⟩ := Holds.frzFacts (H7) hb6
  obtain ⟨l7, n7, c7⟩ := Holds.frzFacts (H7) hb7
  go_wp2_with fail
  clear l6 n6 c6 l7 n7 c7
  refine (rd_num (k := 2) (by decide) H7 hr1).mono ?_
  rintro e w8 ⟨v2, rfl, H8, hr2⟩
  have hl2 := Nat.le_trans (pNum_le 2 a1.2) hl1
  obtain ⟨a2, ha⟩ : ∃ a, a = pNum 2 a1.2 := ⟨_, rfl⟩
  rw [← ha] at H8 hr2 hl2 ⊢
  have A2 := Hid.mk' ha
  clear ha H7 hr1 hl1
  obtain ⟨l8, n8, c8, z8⟩ := Holds.facts (H8.swap)
  go_upto_region 10 with fail
  have H9 := (H8.swap.set 1 (.int .i64 ((a2.1 : Nat) : Int))).swap
  replace H9 : Holds _ R5 (star (blk p3 #[v2, .bool a2.2.2] rdrT) (star (blk g9 #[.int .i64 ((a1.1 : Nat) : Int), .int .i64 ((a2.1 : Nat) : Int), .int .i64 0, .int .i64 0, .string ⟨#[]⟩, .int .i64 0, .int .i64 0, .int .i64 0, .int .i64 0, .int .i64 0, .slice none 0 0, .slice none 0 0, .slice none 0 0] tMsg) (star (blk z zeroMs tMsg) L))) := H9
  clear H8 l8 n8 c8 z8
  generalize (World.setCell ..) = w9 at H9 ⊢
  have H7 := H9
  have hr1 := hr2
  have hl1 := hl2
  clear H9 hr2 hl2
  obtain ⟨l6, n6, c6⟩ := Holds.frzFacts (H7) hb6
  obtain ⟨l7, n7, c7⟩ := Holds.frzFacts (H7) hb7
  go_wp2_with fail
  clear l6 n6 c6 l7 n7 c7
  refine (rd_num (k := 2) (by decide) H7 hr1).mono ?_
  rintro e w8 ⟨v2, rfl, H8, hr2⟩
  have hl2 := Nat.le_trans (pNum_le 2 a2.2) hl1
  obtain ⟨a3, ha⟩ : ∃ a, a = pNum 2 a2.2 := ⟨_, rfl⟩
  rw [← ha] at H8 hr2 hl2 ⊢
  have A3 := Hid.mk' ha
  clear ha H7 hr1 hl1
  obtain ⟨l8, n8, c8, z8⟩ := Holds.facts (H8.swap)
  go_upto_region 11 with fail
  have H9 := (H8.swap.set 2 (.int .i64 ((a3.1 : Nat) : Int))).swap
  replace H9 : Holds _ R5 (star (blk p3 #[v2, .bool a3.2.2] rdrT) (star (blk g9 #[.int .i64 ((a1.1 : Nat) : Int), .int .i64 ((a2.1 : Nat) : Int), .int .i64 ((a3.1 : Nat) : Int), .int .i64 0, .string ⟨#[]⟩, .int .i64 0, .int .i64 0, .int .i64 0, .int .i64 0, .int .i64 0, .slice none 0 0, .slice none 0 0, .slice none 0 0] tMsg) (star (blk z zeroMs tMsg) L))) := H9
  clear H8 l8 n8 c8 z8
  generalize (World.setCell ..) = w9 at H9 ⊢
  have H7 := H9
  have hr1 := hr2
  have hl1 := hl2
  clear H9 hr2 hl2
  obtain ⟨l6, n6, c6⟩ := Holds.frzFacts (H7) hb6
  obtain ⟨l7, n7, c7⟩ := Holds.frzFacts (H7) hb7
  go_wp2_with fail
  clear l6 n6 c6 l7 n7 c7
  refine (rd_num (k := 4) (by decide) H7 hr1).mono ?_
  rintro e w8 ⟨v2, rfl, H8, hr2⟩
  have hl2 := Nat.le_trans (pNum_le 4 a3.2) hl1
  obtain ⟨a4, ha⟩ : ∃ a, a = pNum 4 a3.2 := ⟨_, rfl⟩
  rw [← ha] at H8 hr2 hl2 ⊢
  have A4 := Hid.mk' ha
  clear ha H7 hr1 hl1
  obtain ⟨l8, n8, c8, z8⟩ := Holds.facts (H8.swap)
  go_upto_region 12 with fail
  have H9 := (H8.swap.set 3 (.int .i64 ((a4.1 : Nat) : Int))).swap
  replace H9 : Holds _ R5 (star (blk p3 #[v2, .bool a4.2.2] rdrT) (star (blk g9 #[.int .i64 ((a1.1 : Nat) : Int), .int .i64 ((a2.1 : Nat) : Int), .int .i64 ((a3.1 : Nat) : Int), .int .i64 ((a4.1 : Nat) : Int), .string ⟨#[]⟩, .int .i64 0, .int .i64 0, .int .i64 0, .int .i64 0, .int .i64 0, .slice none 0 0, .slice none 0 0, .slice none 0 0] tMsg) (star (blk z zeroMs tMsg) L))) := H9
  clear H8 l8 n8 c8 z8
  generalize (World.setCell ..) = w9 at H9 ⊢
  have H7 := H9
  have hr1 := hr2
  have hl1 := hl2
  clear H9 hr2 hl2
  obtain ⟨l6, n6, c6⟩ := Holds.frzFacts (H7) hb6
  obtain ⟨l7, n7, c7⟩ := Holds.frzFacts (H7) hb7
  go_wp2_with fail
  clear l6 n6 c6 l7 n7 c7
  refine (get1_spec hb6 H7 hr1 hl1).mono ?_
  rintro e w8 ⟨v2, rfl, H8, hr2⟩
  have hl2 := Nat.le_trans (pText_le a4.2) hl1
  have hbt5 := pText_lt a4.2
  obtain ⟨a5, ha⟩ : ∃ a, a = pText a4.2 := ⟨_, rfl⟩
  rw [← ha] at H8 hr2 hl2 hbt5 ⊢
  have A5 := Hid.mk' ha
  clear ha H7 hr1 hl1
  obtain ⟨l8, n8, c8, z8⟩ := Holds.facts (H8.swap)
  go_upto_region 13 with fail
  have H9 := (H8.swap.set 4 (.string ⟨a5.1.toArray⟩)).swap
  replace H9 : Holds _ R5 (star (blk p3 #[v2, .bool a5.2.2] rdrT) (star (blk g9 #[.int .i64 ((a1.1 : Nat) : Int), .int .i64 ((a2.1 : Nat) : Int), .int .i64 ((a3.1 : Nat) : Int), .int .i64 ((a4.1 : Nat) : Int), .string ⟨a5.1.toArray⟩, .int .i64 0, .int .i64 0, .int .i64 0, .int .i64 0, .int .i64 0, .slice none 0 0, .slice none 0 0, .slice none 0 0] tMsg) (star (blk z zeroMs tMsg) L))) := H9
  clear H8 l8 n8 c8 z8
  generalize (World.setCell ..) = w9 at H9 ⊢
  have H7 := H9
  have hr1 := hr2
  have hl1 := hl2
  clear H9 hr2 hl2
  obtain ⟨l6, n6, c6⟩ := Holds.frzFacts (H7) hb6
  obtain ⟨l7, n7, c7⟩ := Holds.frzFacts (H7) hb7
  go_wp2_with fail
  clear l6 n6 c6 l7 n7 c7
  refine (rd_num (k := 4) (by decide) H7 hr1).mono ?_
  rintro e w8 ⟨v2, rfl, H8, hr2⟩
  have hl2 := Nat.le_trans (pNum_le 4 a5.2) hl1
  obtain ⟨a6, ha⟩ : ∃ a, a = pNum 4 a5.2 := ⟨_, rfl⟩
  rw [← ha] at H8 hr2 hl2 ⊢
  have A6 := Hid.mk' ha
  clear ha H7 hr1 hl1
  obtain ⟨l8, n8, c8, z8⟩ := Holds.facts (H8.swap)
  go_upto_region 14 with fail
  have H9 := (H8.swap.set 5 (.int .i64 ((a6.1 : Nat) : Int))).swap
  replace H9 : Holds _ R5 (star (blk p3 #[v2, .bool a6.2.2] rdrT) (star (blk g9 #[.int .i64 ((a1.1 : Nat) : Int), .int .i64 ((a2.1 : Nat) : Int), .int .i64 ((a3.1 : Nat) : Int), .int .i64 ((a4.1 : Nat) : Int), .string ⟨a5.1.toArray⟩, .int .i64 ((a6.1 : Nat) : Int), .int .i64 0, .int .i64 0, .int .i64 0, .int .i64 0, .slice none 0 0, .slice none 0 0, .slice none 0 0] tMsg) (star (blk z zeroMs tMsg) L))) := H9
  clear H8 l8 n8 c8 z8
  generalize (World.setCell ..) = w9 at H9 ⊢
  have H7 := H9
  have hr1 := hr2
  have hl1 := hl2
  clear H9 hr2 hl2
  obtain ⟨l6, n6, c6⟩ := Holds.frzFacts (H7) hb6
  obtain ⟨l7, n7, c7⟩ := Holds.frzFacts (H7) hb7
  go_wp2_with fail
  clear l6 n6 c6 l7 n7 c7
  refine (rd_num (k := 4) (by decide) H7 hr1).mono ?_
  rintro e w8 ⟨v2, rfl, H8, hr2⟩
  have hl2 := Nat.le_trans (pNum_le 4 a6.2) hl1
  obtain ⟨a7, ha⟩ : ∃ a, a = pNum 4 a6.2 := ⟨_, rfl⟩
  rw [← ha] at H8 hr2 hl2 ⊢
  have A7 := Hid.mk' ha
  clear ha H7 hr1 hl1
  obtain ⟨l8, n8, c8, z8⟩ := Holds.facts (H8.swap)
  go_upto_region 15 with fail
  have H9 := (H8.swap.set 6 (.int .i64 ((a7.1 : Nat) : Int))).swap
  replace H9 : Holds _ R5 (star (blk p3 #[v2, .bool a7.2.2] rdrT) (star (blk g9 #[.int .i64 ((a1.1 : Nat) : Int), .int .i64 ((a2.1 : Nat) : Int), .int .i64 ((a3.1 : Nat) : Int), .int .i64 ((a4.1 : Nat) : Int), .string ⟨a5.1.toArray⟩, .int .i64 ((a6.1 : Nat) : Int), .int .i64 ((a7.1 : Nat) : Int), .int .i64 0, .int .i64 0, .int .i64 0, .slice none 0 0, .slice none 0 0, .slice none 0 0] tMsg) (star (blk z zeroMs tMsg) L))) := H9
  clear H8 l8 n8 c8 z8
  generalize (World.setCell ..) = w9 at H9 ⊢
  have H7 := H9
  have hr1 := hr2
  have hl1 := hl2
  clear H9 hr2 hl2
  obtain ⟨l6, n6, c6⟩ := Holds.frzFacts (H7) hb6
  obtain ⟨l7, n7, c7⟩ := Holds.frzFacts (H7) hb7
  go_wp2_with fail
  clear l6 n6 c6 l7 n7 c7
  refine (rd_num (k := 4) (by decide) H7 hr1).mono ?_
  rintro e w8 ⟨v2, rfl, H8, hr2⟩
  have hl2 := Nat.le_trans (pNum_le 4 a7.2) hl1
  obtain ⟨a8, ha⟩ : ∃ a, a = pNum 4 a7.2 := ⟨_, rfl⟩
  rw [← ha] at H8 hr2 hl2 ⊢
  have A8 := Hid.mk' ha
  clear ha H7 hr1 hl1
  obtain ⟨l8, n8, c8, z8⟩ := Holds.facts (H8.swap)
  go_upto_region 16 with fail
  have H9 := (H8.swap.set 7 (.int .i64 ((a8.1 : Nat) : Int))).swap
  replace H9 : Holds _ R5 (star (blk p3 #[v2, .bool a8.2.2] rdrT) (star (blk g9 #[.int .i64 ((a1.1 : Nat) : Int), .int .i64 ((a2.1 : Nat) : Int), .int .i64 ((a3.1 : Nat) : Int), .int .i64 ((a4.1 : Nat) : Int), .string ⟨a5.1.toArray⟩, .int .i64 ((a6.1 : Nat) : Int), .int .i64 ((a7.1 : Nat) : Int), .int .i64 ((a8.1 : Nat) : Int), .int .i64 0, .int .i64 0, .slice none 0 0, .slice none 0 0, .slice none 0 0] tMsg) (star (blk z zeroMs tMsg) L))) := H9
  clear H8 l8 n8 c8 z8
  generalize (World.setCell ..) = w9 at H9 ⊢
  have H7 := H9
  have hr1 := hr2
  have hl1 := hl2
  clear H9 hr2 hl2
  obtain ⟨l6, n6, c6⟩ := Holds.frzFacts (H7) hb6
  obtain ⟨l7, n7, c7⟩ := Holds.frzFacts (H7) hb7
  go_wp2_with fail
  clear l6 n6 c6 l7 n7 c7
  refine (rd_num (k := 2) (by decide) H7 hr1).mono ?_
  rintro e w8 ⟨v2, rfl, H8, hr2⟩
  have hl2 := Nat.le_trans (pNum_le 2 a8.2) hl1
  obtain ⟨a9, ha⟩ : ∃ a, a = pNum 2 a8.2 := ⟨_, rfl⟩
  rw [← ha] at H8 hr2 hl2 ⊢
  have A9 := Hid.mk' ha
  clear ha H7 hr1 hl1
  obtain ⟨l8, n8, c8, z8⟩ := Holds.facts (H8.swap)
  go_upto_region 17 with fail
  have H9 := (H8.swap.set 8 (.int .i64 ((a9.1 : Nat) : Int))).swap
  replace H9 : Holds _ R5 (star (blk p3 #[v2, .bool a9.2.2] rdrT) (star (blk g9 #[.int .i64 ((a1.1 : Nat) : Int), .int .i64 ((a2.1 : Nat) : Int), .int .i64 ((a3.1 : Nat) : Int), .int .i64 ((a4.1 : Nat) : Int), .string ⟨a5.1.toArray⟩, .int .i64 ((a6.1 : Nat) : Int), .int .i64 ((a7.1 : Nat) : Int), .int .i64 ((a8.1 : Nat) : Int), .int .i64 ((a9.1 : Nat) : Int), .int .i64 0, .slice none 0 0, .slice none 0 0, .slice none 0 0] tMsg) (star (blk z zeroMs tMsg) L))) := H9
  clear H8 l8 n8 c8 z8
  generalize (World.setCell ..) = w9 at H9 ⊢
  have H7 := H9
  have hr1 := hr2
  have hl1 := hl2
  clear H9 hr2 hl2
  obtain ⟨l6, n6, c6⟩ := Holds.frzFacts (H7) hb6
  obtain ⟨l7, n7, c7⟩ := Holds.frzFacts (H7) hb7
  go_wp2_with fail
  clear l6 n6 c6 l7 n7 c7
  refine (rd_num (k := 1) (by decide) H7 hr1).mono ?_
  rintro e w8 ⟨v2, rfl, H8, hr2⟩
  have hl2 := Nat.le_trans (pNum_le 1 a9.2) hl1
  obtain ⟨a10, ha⟩ : ∃ a, a = pNum 1 a9.2 := ⟨_, rfl⟩
  rw [← ha] at H8 hr2 hl2 ⊢
  have A10 := Hid.mk' ha
  clear ha H7 hr1 hl1
  obtain ⟨l8, n8, c8, z8⟩ := Holds.facts (H8.swap)
  go_upto_region 18 with fail
  have H9 := (H8.swap.set 9 (.int .i64 ((a10.1 : Nat) : Int))).swap
  replace H9 : Holds _ R5 (star (blk p3 #[v2, .bool a10.2.2] rdrT) (star (blk g9 #[.int .i64 ((a1.1 : Nat) : Int), .int .i64 ((a2.1 : Nat) : Int), .int .i64 ((a3.1 : Nat) : Int), .int .i64 ((a4.1 : Nat) : Int), .string ⟨a5.1.toArray⟩, .int .i64 ((a6.1 : Nat) : Int), .int .i64 ((a7.1 : Nat) : Int), .int .i64 ((a8.1 : Nat) : Int), .int .i64 ((a9.1 : Nat) : Int), .int .i64 ((a10.1 : Nat) : Int), .slice none 0 0, .slice none 0 0, .slice none 0 0] tMsg) (star (blk z zeroMs tMsg) L))) := H9
  clear H8 l8 n8 c8 z8
  generalize (World.setCell ..) = w9 at H9 ⊢
  have H7 := H9
  have hr1 := hr2
  have hl1 := hl2
  clear H9 hr2 hl2
  obtain ⟨l6, n6, c6⟩ := Holds.frzFacts (H7) hb6
  obtain ⟨l7, n7, c7⟩ := Holds.frzFacts (H7) hb7
  go_wp2_with fail
  clear l6 n6 c6 l7 n7 c7
  refine (manyInts_spec hb7 H7 hr1).mono ?_
  rintro e w8 ⟨o, v2, rfl, H8, hr2⟩
  obtain ⟨a11, ha⟩ : ∃ a, a = pNum 1 a10.2 := ⟨_, rfl⟩
  rw [← ha] at H8 hr2
  have A11 := Hid.mk' ha
  clear ha
  obtain ⟨a12, ha⟩ : ∃ a, a = pMany (pNum 4) a11.1 a11.2 := ⟨_, rfl⟩
  rw [← ha] at H8 hr2
  have A12 := Hid.mk' ha
  have hl2 : a12.2.1.length ≤ 1000000 := by
    rw [A12.out, A11.out]; exact Nat.le_trans (pMany_le (pNum_le 4) _ _) (Nat.le_trans (pNum_le 1 a10.2) hl1)
  have hn12 : (toInts a12.1).length ≤ 255 := by
    rw [toInts, List.length_map, A12.out, A11.out]
    have h1 := pMany_len (pNum 4) (pNum 1 a10.2).1 (pNum 1 a10.2).2
    have h2 := pNum1_lt a10.2
    omega
  have HN12 := Hid.mk' hn12
  clear ha H7 hr1 hl1 hn12
  obtain ⟨R8, le8, H8f, hw⟩ := H8.freezeRow
  clear H8
  have H8 := H8f
  clear H8f
  replace leA := leA.trans le8
  replace hb6 := le8.blk _ _ hb6
  replace hb7 := le8.blk _ _ hb7
  replace hT5 := le8.blk _ _ hT5
  replace hr2 := Rd.le hr2 le8
  clear le8
  replace hw : RdI R8.cell? o (toInts a12.1) := by rw [show a12.1.length = (toInts a12.1).length by simp [toInts]] at hw; exact hw
  obtain ⟨aw, cw, rfl⟩ := hw.form
  have HWR := Hid.mk' hw
  clear hw
  obtain ⟨l8, n8, c8, z8⟩ := Holds.facts (H8.swap)
  go_upto_region 19 with fail
  have H9 := (H8.swap.set 10 (.slice aw (toInts a12.1).length cw)).swap
  replace H9 : Holds _ R8 (star (blk p3 #[v2, .bool a12.2.2] rdrT) (star (blk g9 #[.int .i64 ((a1.1 : Nat) : Int), .int .i64 ((a2.1 : Nat) : Int), .int .i64 ((a3.1 : Nat) : Int), .int .i64 ((a4.1 : Nat) : Int), .string ⟨a5.1.toArray⟩, .int .i64 ((a6.1 : Nat) : Int), .int .i64 ((a7.1 : Nat) : Int), .int .i64 ((a8.1 : Nat) : Int), .int .i64 ((a9.1 : Nat) : Int), .int .i64 ((a10.1 : Nat) : Int), .slice aw (toInts a12.1).length cw, .slice none 0 0, .slice none 0 0] tMsg) (star (blk z zeroMs tMsg) L))) := H9
  clear H8 l8 n8 c8 z8
  generalize (World.setCell ..) = w9 at H9 ⊢
  have H7 := H9
  have hr1 := hr2
  have hl1 := hl2
  clear H9 hr2 hl2
  obtain ⟨l6, n6, c6⟩ := Holds.frzFacts (H7) hb6
  obtain ⟨l7, n7, c7⟩ := Holds.frzFacts (H7) hb7
  go_wp2_with fail
  clear l6 n6 c6 l7 n7 c7
  refine (manyStrs_spec hb6 H7 hr1 hl1).mono ?_
  rintro e w8 ⟨o, v2, rfl, H8, hr2⟩
  obtain ⟨a13, ha⟩ : ∃ a, a = pNum 1 a12.2 := ⟨_, rfl⟩
  rw [← ha] at H8 hr2
  have A13 := Hid.mk' ha
  clear ha
  obtain ⟨a14, ha⟩ : ∃ a, a = pMany pText a13.1 a13.2 := ⟨_, rfl⟩
  rw [← ha] at H8 hr2
  have A14 := Hid.mk' ha
  have hl2 : a14.2.1.length ≤ 1000000 := by
    rw [A14.out, A13.out]; exact Nat.le_trans (pMany_le pText_le _ _) (Nat.le_trans (pNum_le 1 a12.2) hl1)
  have hn14 : (toStrs a14.1).length ≤ 255 := by
    rw [toStrs, List.length_map, A14.out, A13.out]
    have h1 := pMany_len pText (pNum 1 a12.2).1 (pNum 1 a12.2).2
    have h2 := pNum1_lt a12.2
    omega
  have hs14 : ∀ s ∈ toStrs a14.1, s.size ≤ maxLen := by
    intro s hs
    obtain ⟨y, hy, rfl⟩ := List.mem_map.1 hs
    rw [A14.out] at hy
    have h1 := pMany_all (Q := fun l : List UInt8 => l.length ≤ 255) pText_lt _ _ y hy
    have h2 : (⟨y.toArray⟩ : ByteArray).size = y.length := by show y.toArray.size = _; simp
    rw [h2]; simp only [maxLen]; omega
  have HN14 := Hid.mk' hn14
  have HS14 := Hid.mk' hs14
  clear ha H7 hr1 hl1 hn14 hs14
  obtain ⟨R9, le8, H8f, hw⟩ := H8.freezeRow
  clear H8
  have H8 := H8f
  clear H8f
  replace leA := leA.trans le8
  replace hb6 := le8.blk _ _ hb6
  replace hb7 := le8.blk _ _ hb7
  replace hT5 := le8.blk _ _ hT5
  replace hr2 := Rd.le hr2 le8
  replace HWR := Hid.mk' (Rd.le HWR.out le8)
  clear le8
  replace hw : RdS R9.cell? o (toStrs a14.1) := by rw [show a14.1.length = (toStrs a14.1).length by simp [toStrs]] at hw; exact hw
  obtain ⟨an, cn, rfl⟩ := hw.form
  have HNR := Hid.mk' hw
  clear hw
  obtain ⟨l8, n8, c8, z8⟩ := Holds.facts (H8.swap)
  go_upto_region 20 with fail
  have H9 := (H8.swap.set 11 (.slice an (toStrs a14.1).length cn)).swap
  replace H9 : Holds _ R9 (star (blk p3 #[v2, .bool a14.2.2] rdrT) (star (blk g9 #[.int .i64 ((a1.1 : Nat) : Int), .int .i64 ((a2.1 : Nat) : Int), .int .i64 ((a3.1 : Nat) : Int), .int .i64 ((a4.1 : Nat) : Int), .string ⟨a5.1.toArray⟩, .int .i64 ((a6.1 : Nat) : Int), .int .i64 ((a7.1 : Nat) : Int), .int .i64 ((a8.1 : Nat) : Int), .int .i64 ((a9.1 : Nat) : Int), .int .i64 ((a10.1 : Nat) : Int), .slice aw (toInts a12.1).length cw, .slice an (toStrs a14.1).length cn, .slice none 0 0] tMsg) (star (blk z zeroMs tMsg) L))) := H9
  clear H8 l8 n8 c8 z8
  generalize (World.setCell ..) = w9 at H9 ⊢
  have H7 := H9
  have hr1 := hr2
  have hl1 := hl2
  clear H9 hr2 hl2
  obtain ⟨l6, n6, c6⟩ := Holds.frzFacts (H7) hb6
  go_wp2_with fail
  clear l6 n6 c6
  refine (rd_text H7 hr1 hl1).mono ?_
  rintro e w8 ⟨o, v2, rfl, H8, hr2⟩
  obtain ⟨a15, ha⟩ : ∃ a, a = pText a14.2 := ⟨_, rfl⟩
  rw [← ha] at H8 hr2
  have A15 := Hid.mk' ha
  have hn15 : a15.1.length ≤ 255 := by rw [ha]; exact pText_lt _
  have HN15 := Hid.mk' hn15
  clear ha H7 hr1 hl1 hn15
  obtain ⟨R10, le8, H8f, hw⟩ := H8.freezeRow
  clear H8
  have H8 := H8f
  clear H8f
  replace leA := leA.trans le8
  replace hb6 := le8.blk _ _ hb6
  replace hb7 := le8.blk _ _ hb7
  replace hT5 := le8.blk _ _ hT5
  replace hr2 := Rd.le hr2 le8
  replace HWR := Hid.mk' (Rd.le HWR.out le8)
  replace HNR := Hid.mk' (Rd.le HNR.out le8)
  clear le8 hr2
  replace hw : RdB R10.cell? o a15.1 := hw
  obtain ⟨ad, cd, rfl⟩ := hw.form
  have HDR := Hid.mk' hw
  clear hw
  obtain ⟨l8, n8, c8, z8⟩ := Holds.facts (H8.swap)
  go_upto_region 21 with fail
  have H9 := (H8.swap.set 12 (.slice ad a15.1.length cd)).drop2
  replace H9 : Holds _ R10 (star (blk g9 #[.int .i64 ((a1.1 : Nat) : Int), .int .i64 ((a2.1 : Nat) : Int), .int .i64 ((a3.1 : Nat) : Int), .int .i64 ((a4.1 : Nat) : Int), .string ⟨a5.1.toArray⟩, .int .i64 ((a6.1 : Nat) : Int), .int .i64 ((a7.1 : Nat) : Int), .int .i64 ((a8.1 : Nat) : Int), .int .i64 ((a9.1 : Nat) : Int), .int .i64 ((a10.1 : Nat) : Int), .slice aw (toInts a12.1).length cw, .slice an (toStrs a14.1).length cn, .slice ad a15.1.length cd] tMsg) (star (blk z zeroMs tMsg) L)) := H9
  clear H8 l8 n8 c8 z8
  generalize (World.setCell ..) = w9 at H9 ⊢
  have e0 : q0 b = a0 := by rw [A0.out]; rfl

  have e1 : q1 b = a1 := by unfold q1; rw [e0, ← A1.out]
  have e2 : q2 b = a2 := by unfold q2; rw [e1, ← A2.out]
  have e3 : q3 b = a3 := by unfold q3; rw [e2, ← A3.out]
  have e4 : q4 b = a4 := by unfold q4; rw [e3, ← A4.out]
  have e5 : q5 b = a5 := by unfold q5; rw [e4, ← A5.out]
  have e6 : q6 b = a6 := by unfold q6; rw [e5, ← A6.out]
  have e7 : q7 b = a7 := by unfold q7; rw [e6, ← A7.out]
  have e8 : q8 b = a8 := by unfold q8; rw [e7, ← A8.out]
  have e9 : q9 b = a9 := by unfold q9; rw [e8, ← A9.out]
  have e10 : q10 b = a10 := by unfold q10; rw [e9, ← A10.out]
  have e11 : q11 b = a11 := by unfold q11; rw [e10, ← A11.out]
  have e12 : q12 b = a12 := by unfold q12; rw [e11, ← A12.out]
  have e13 : q13 b = a13 := by unfold q13; rw [e12, ← A13.out]
  have e14 : q14 b = a14 := by unfold q14; rw [e13, ← A14.out]
  have e15 : q15 b = a15 := by unfold q15; rw [e14, ← A15.out]
  have hMc : Ms.con (⟨((a1.1 : Nat) : Int), ((a2.1 : Nat) : Int), ((a3.1 : Nat) : Int), ((a4.1 : Nat) : Int), ⟨a5.1.toArray⟩, ((a6.1 : Nat) : Int), ((a7.1 : Nat) : Int), ((a8.1 : Nat) : Int), ((a9.1 : Nat) : Int), ((a10.1 : Nat) : Int), .slice aw (toInts a12.1).length cw, .slice an (toStrs a14.1).length cn, .slice ad a15.1.length cd, toInts a12.1, toStrs a14.1, a15.1⟩ : Ms) = (gotM b).con := by
    unfold gotM
    rw [e1, e2, e3, e4, e5, e6, e7, e8, e9, e10, e12, e14, e15]
    rfl
  have hMr : Ms.Rd R10.cell? (⟨((a1.1 : Nat) : Int), ((a2.1 : Nat) : Int), ((a3.1 : Nat) : Int), ((a4.1 : Nat) : Int), ⟨a5.1.toArray⟩, ((a6.1 : Nat) : Int), ((a7.1 : Nat) : Int), ((a8.1 : Nat) : Int), ((a9.1 : Nat) : Int), ((a10.1 : Nat) : Int), .slice aw (toInts a12.1).length cw, .slice an (toStrs a14.1).length cn, .slice ad a15.1.length cd, toInts a12.1, toStrs a14.1, a15.1⟩ : Ms) := ⟨HWR.out, HNR.out, HDR.out⟩
  have hMz : Ms.Sz (⟨((a1.1 : Nat) : Int), ((a2.1 : Nat) : Int), ((a3.1 : Nat) : Int), ((a4.1 : Nat) : Int), ⟨a5.1.toArray⟩, ((a6.1 : Nat) : Int), ((a7.1 : Nat) : Int), ((a8.1 : Nat) : Int), ((a9.1 : Nat) : Int), ((a10.1 : Nat) : Int), .slice aw (toInts a12.1).length cw, .slice an (toStrs a14.1).length cn, .slice ad a15.1.length cd, toInts a12.1, toStrs a14.1, a15.1⟩ : Ms) := ⟨by show a5.1.toArray.size ≤ maxLen; rw [List.size_toArray]; simp only [maxLen]; omega, HS14.out, by show (toInts a12.1).length ≤ 1000000; have := HN12.out; omega, by show (toStrs a14.1).length ≤ 1000000; have := HN14.out; omega, by show a15.1.length ≤ 1000000; have := HN15.out; omega⟩
  clear e0 e1 e2 e3 e4 e5 e6 e7 e8 e9 e10 e11 e12 e13 e14 e15
  have hok : msgOk (⟨((a1.1 : Nat) : Int), ((a2.1 : Nat) : Int), ((a3.1 : Nat) : Int), ((a4.1 : Nat) : Int), ⟨a5.1.toArray⟩, ((a6.1 : Nat) : Int), ((a7.1 : Nat) : Int), ((a8.1 : Nat) : Int), ((a9.1 : Nat) : Int), ((a10.1 : Nat) : Int), .slice aw (toInts a12.1).length cw, .slice an (toStrs a14.1).length cn, .slice ad a15.1.length cd, toInts a12.1, toStrs a14.1, a15.1⟩ : Ms) = msgOk (gotM b) := msgOk_con hMc
  have hput : putM (⟨((a1.1 : Nat) : Int), ((a2.1 : Nat) : Int), ((a3.1 : Nat) : Int), ((a4.1 : Nat) : Int), ⟨a5.1.toArray⟩, ((a6.1 : Nat) : Int), ((a7.1 : Nat) : Int), ((a8.1 : Nat) : Int), ((a9.1 : Nat) : Int), ((a10.1 : Nat) : Int), .slice aw (toInts a12.1).length cw, .slice an (toStrs a14.1).length cn, .slice ad a15.1.length cd, toInts a12.1, toStrs a14.1, a15.1⟩ : Ms) = putM (gotM b) := putM_con hMc
  have HMC := Hid.mk' hMc
  have HMR := Hid.mk' hMr
  have HMZ := Hid.mk' hMz
  have HPT := Hid.mk' hput
  obtain ⟨ok, hok2⟩ : ∃ ok, ok = msgOk (gotM b) := ⟨_, rfl⟩
  rw [← hok2] at hok
  have HOK := Hid.mk' hok
  have HO2 := Hid.mk' hok2
  clear hMc hMr hMz hput hok hok2 hbl hbt5
  obtain ⟨l8, n8, c8, z8⟩ := Holds.facts (H9)
  obtain ⟨l9, n9, c9, z9⟩ := Holds.facts (H9.swap)
  obtain ⟨s1, s2⟩ := Holds.apart H9
  cases ok
  · go_wp2_with fail
    refine (mput_bad (⟨((a1.1 : Nat) : Int), ((a2.1 : Nat) : Int), ((a3.1 : Nat) : Int), ((a4.1 : Nat) : Int), ⟨a5.1.toArray⟩, ((a6.1 : Nat) : Int), ((a7.1 : Nat) : Int), ((a8.1 : Nat) : Int), ((a9.1 : Nat) : Int), ((a10.1 : Nat) : Int), .slice aw (toInts a12.1).length cw, .slice an (toStrs a14.1).length cn, .slice ad a15.1.length cd, toInts a12.1, toStrs a14.1, a15.1⟩ : Ms) H9 HMR.out HMZ.out HOK.out).mono ?_
    rintro e w11 ⟨rfl, H11⟩
    clear H9 l8 n8 c8 z8 l9 n9 c9 z9
    obtain ⟨l9, n9, c9, z9⟩ := Holds.facts (H11.swap)
    go_wp2_with fail
    have H13 := H11.swap.blkFull [.int .i64 0, .int .i64 0, .int .i64 0, .int .i64 0, .string ⟨#[]⟩, .int .i64 0, .int .i64 0, .int .i64 0, .int .i64 0, .int .i64 0, .slice none 0 0, .slice none 0 0, .slice none 0 0] rfl
    clear H11 l9 n9 c9 z9
    generalize hw9 : World.setCell .. = w13
    replace H13 := Holds.at hw9 H13
    clear hw9
    refine bodyPost_ret (results_cell2 rfl _ _ z tMsg _ (0, 0) _ rfl H13.blkAt Try.underlying63 rfl (by kernel_rfl)) rfl ?_
    exact ⟨R10, leA, msZero, by rw [HC.out, ← HO2.out]; rfl, by rw [HM.out, ← HO2.out]; rfl, ⟨Rd.nil, Rd.nil, RdB.nil⟩, ms_zero_Sz, H13.drop.drop⟩
  · go_wp2_with fail
    refine (mput_ok (⟨((a1.1 : Nat) : Int), ((a2.1 : Nat) : Int), ((a3.1 : Nat) : Int), ((a4.1 : Nat) : Int), ⟨a5.1.toArray⟩, ((a6.1 : Nat) : Int), ((a7.1 : Nat) : Int), ((a8.1 : Nat) : Int), ((a9.1 : Nat) : Int), ((a10.1 : Nat) : Int), .slice aw (toInts a12.1).length cw, .slice an (toStrs a14.1).length cn, .slice ad a15.1.length cd, toInts a12.1, toStrs a14.1, a15.1⟩ : Ms) H9 hT5 HMR.out HMZ.out HOK.out).mono ?_
    rintro e w11 ⟨o, rfl, H11⟩
    have hEq := bytesEqual_spec H11.rowRd (Rd.world (Rd.le hx leA) H11)
    obtain ⟨ao, co, rfl⟩ := H11.rowRd.form
    clear H9 l8 n8 c8 z8 l9 n9 c9 z9
    have H12 := H11.drop
    obtain ⟨l9, n9, c9, z9⟩ := Holds.facts (H12.swap)
    obtain ⟨l8, n8, c8, z8⟩ := Holds.facts (H12)
    go_wp2_with fail
    refine hEq.mono ?_
    rintro e w12 ⟨rfl, rfl⟩
    rw [HPT.out]
    obtain ⟨eq, heq⟩ : ∃ eq, eq = decide (putM (gotM b) = x) := ⟨_, rfl⟩
    rw [← heq]
    have HEQ := Hid.mk' heq
    clear heq hEq H11
    cases eq
    · go_wp2_with fail
      have H13 := H12.swap.blkFull [.int .i64 0, .int .i64 0, .int .i64 0, .int .i64 0, .string ⟨#[]⟩, .int .i64 0, .int .i64 0, .int .i64 0, .int .i64 0, .int .i64 0, .slice none 0 0, .slice none 0 0, .slice none 0 0] rfl
      clear H12 l8 n8 c8 z8 l9 n9 c9 z9
      generalize hw9 : World.setCell .. = w13
      replace H13 := Holds.at hw9 H13
      clear hw9
      refine bodyPost_ret (results_cell2 rfl _ _ z tMsg _ (0, 0) _ rfl H13.blkAt Try.underlying63 rfl (by kernel_rfl)) rfl ?_
      exact ⟨R10, leA, msZero, by rw [HC.out, ← HO2.out, ← HEQ.out]; rfl, by rw [HM.out, ← HO2.out, ← HEQ.out]; rfl, ⟨Rd.nil, Rd.nil, RdB.nil⟩, ms_zero_Sz, H13.drop.drop⟩
    · go_wp2_with fail
      have H13 := H12.swap.blkFull [.int .i64 ((a1.1 : Nat) : Int), .int .i64 ((a2.1 : Nat) : Int), .int .i64 ((a3.1 : Nat) : Int), .int .i64 ((a4.1 : Nat) : Int), .string ⟨a5.1.toArray⟩, .int .i64 ((a6.1 : Nat) : Int), .int .i64 ((a7.1 : Nat) : Int), .int .i64 ((a8.1 : Nat) : Int), .int .i64 ((a9.1 : Nat) : Int), .int .i64 ((a10.1 : Nat) : Int), .slice aw (toInts a12.1).length cw, .slice an (toStrs a14.1).length cn, .slice ad a15.1.length cd] rfl
      clear H12 l8 n8 c8 z8 l9 n9 c9 z9
      generalize hw9 : World.setCell .. = w13
      replace H13 := Holds.at hw9 H13
      clear hw9
      refine bodyPost_ret (results_cell2 rfl _ _ z tMsg _ (0, 0) _ rfl H13.blkAt Try.underlying63 rfl (by kernel_rfl)) rfl ?_
      exact ⟨R10, leA, (⟨((a1.1 : Nat) : Int), ((a2.1 : Nat) : Int), ((a3.1 : Nat) : Int), ((a4.1 : Nat) : Int), ⟨a5.1.toArray⟩, ((a6.1 : Nat) : Int), ((a7.1 : Nat) : Int), ((a8.1 : Nat) : Int), ((a9.1 : Nat) : Int), ((a10.1 : Nat) : Int), .slice aw (toInts a12.1).length cw, .slice an (toStrs a14.1).length cn, .slice ad a15.1.length cd, toInts a12.1, toStrs a14.1, a15.1⟩ : Ms), by rw [HC.out, ← HO2.out, ← HEQ.out]; rfl, by rw [HM.out, ← HO2.out, ← HEQ.out]; exact HMC.out, HMR.out, HMZ.out, H13.drop.drop⟩
end Sh
