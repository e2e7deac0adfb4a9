/- sherdref25.Get. -/
import Derived.Test.YtmogagcffebbaaaMsgRRd
import Derived.Test.YtmogagcffebbaaaMsgGot
import Derived.Test.YtmogagcffebbaaaMsgRef
import Derived.Test.YtmogagcffebbaaaCrcRef
set_option linter.unusedVariables false
set_option linter.unusedSimpArgs false
namespace Sh
open Go Go.RowKit Go.Proofs
attribute [local go_sem ↓] Go.wp_at_zero Go.wp_at_succ
set_option maxHeartbeats 1000000
set_option maxRecDepth 100000

set_option maxHeartbeats 8000000
theorem rget_good {w : World} {R : Snap} {L : Asrt} {vx : Value} {x b : List UInt8} (H : Holds w R L) (hx : RdB R.cell? vx x) (hn : x.length ≤ 1000000) (h4 : 4 ≤ x.length) (hg : goodB x = true) (hb : b = x.take (x.length - 4)) (code : Int) (m : Ms) (hcode : code = if readOk b = true then 0 else 3) (hm : m = if readOk b = true then gotM b else msZero) :
    Calls Try.prog 59 #[vx] w fun e w' => ∃ R', R.le R' ∧ ∃ M : Ms, e = .returned (.tuple #[.agg M.cells.toArray, .int .i64 code]) ∧ M.con = m.con ∧ M.Rd R'.cell? ∧ M.Sz ∧ Holds w' R' L := by
  have HC := Hid.mk' hcode
  have HM := Hid.mk' hm
  obtain ⟨ax, cx, rfl⟩ := hx.form
  have hB := hx.bounds
  obtain ⟨N, hN⟩ : ∃ N, N = x.length := ⟨_, rfl⟩
  rw [← hN] at hx hB ⊢
  obtain ⟨n, hnn⟩ : ∃ n, n = N - 4 := ⟨_, rfl⟩
  have hbz : (N : Int) - 4 = n := by omega
  have hnw : wrap64 (n : Int) = (n : Int) := IntWalk.wrap64_in _ (by omega)
  have hnt : ((n : Int)).toNat = n := Int.toNat_natCast n
  have i1 : (0 : Int) ≤ (n : Int) := by omega
  have i2 : (n : Int) ≤ (cx : Int) := by omega
  have hx : RdB R.cell? (.slice ax N cx) x := hx
  have hx0 : RdB R.cell? (.slice ax x.length cx) x := by rw [← hN]; exact hx
  have hpre := RdB.pre hx0 n (by omega)
  rw [← hN, ← hnn] at hb
  rw [← hb] at hpre
  have hbn : b.length = n := by rw [hb, List.length_take]; omega
  have hbl : b.length ≤ 1000000 := by omega
  have t0 : (decide ((n : Int) < 0)) = false := by simp
  have hr0 : RdB R.cell? (.slice ax n cx) b := hpre
  have HG := Hid.mk' hg
  have HBL := Hid.mk' hbl
  have HBN := Hid.mk' hbn
  have hp0 : Pos b 0 (b, false) := ⟨Nat.zero_le _, rfl⟩
  have H1 := H.alloc zeroMs tMsg
  have HN := Hid.mk' hN
  clear H hg hnn hb hcode hm hN hx0 hpre hbl hbn
  go_enter Try.func59, Try.ntmps59
  go_wp2_with fail
  generalize (World.alloc ..) = w1 at H1 ⊢
  generalize w.heap.size = z at H1 ⊢
  refine (cgood_ref H1 hx hn).mono ?_
  rintro e w2 ⟨rfl, H2⟩
  rw [HG.out]
  clear H1
  go_wp2_with fail
  have H5 : Holds _ R (star (blk _ #[.slice ax n cx, .int .i64 ((0 : Nat) : Int), .bool ((b, false) : PSt).2] tR6) (star (blk z zeroMs tMsg) L)) := H2.alloc #[.slice ax n cx, .int .i64 0, .bool false] tR6
  generalize (World.alloc ..) = w5 at H5 ⊢
  generalize w2.heap.size = p3 at H5 ⊢
  clear H2 i1 i2 hbz t0 hB hnw hnt hx
  refine (rr_num (s := (b, false)) (k := 1) (by decide) H5 hr0 hp0 HBL.out).mono ?_
  rintro e w6 ⟨at1, rfl, H6, hp1⟩
  obtain ⟨a0, ha⟩ : ∃ a, a = pNum 1 (b, false) := ⟨_, rfl⟩
  rw [← ha] at H6 hp1 ⊢
  have A0 := Hid.mk' ha
  clear ha H5 hp0
  have H7 := (H6.alloc zeroMs tMsg).swap
  go_wp2_with fail
  generalize (World.alloc ..) = w7 at H7 ⊢
  generalize w6.heap.size = g9 at H7 ⊢
  clear H6
  refine (rr_num (k := 1) (by decide) H7 hr0 hp1 HBL.out).mono ?_
  rintro e w8 ⟨at2, rfl, H8, hp2⟩
  obtain ⟨a1, ha⟩ : ∃ a, a = pNum 1 a0.2 := ⟨_, rfl⟩
  rw [← ha] at H8 hp2 ⊢
  have A1 := Hid.mk' ha
  clear ha H7 hp1
  obtain ⟨l8, n8, c8, z8⟩ := Holds.facts (H8.swap)
  go_upto_region 7 with fail
  have H9 := (H8.swap.set 0 (.int .i64 ((a1.1 : Nat) : Int))).swap
  replace H9 : Holds _ R (star (blk p3 #[.slice ax n cx, .int .i64 (at2 : Nat), .bool a1.2.2] tR6) (star (blk g9 #[.int .i64 ((a1.1 : Nat) : Int), .int .i64 0, .int .i64 0, .int .i64 0, .string ⟨#[]⟩, .int .i64 0, .int .i64 0, .int .i64 0, .int .i64 0, .int .i64 0, .slice none 0 0, .slice none 0 0, .slice none 0 0] tMsg) (star (blk z zeroMs tMsg) L))) := H9
  clear H8 l8 n8 c8 z8
  generalize (World.setCell ..) = w9 at H9 ⊢
  have H7 := H9
  have hp1 := hp2
  clear H9 hp2
  go_wp2_with fail
  refine (rr_num (k := 2) (by decide) H7 hr0 hp1 HBL.out).mono ?_
  rintro e w8 ⟨at2, rfl, H8, hp2⟩
  obtain ⟨a2, ha⟩ : ∃ a, a = pNum 2 a1.2 := ⟨_, rfl⟩
  rw [← ha] at H8 hp2 ⊢
  have A2 := Hid.mk' ha
  clear ha H7 hp1
  obtain ⟨l8, n8, c8, z8⟩ := Holds.facts (H8.swap)
  go_upto_region 8 with fail
  have H9 := (H8.swap.set 1 (.int .i64 ((a2.1 : Nat) : Int))).swap
  replace H9 : Holds _ R (star (blk p3 #[.slice ax n cx, .int .i64 (at2 : Nat), .bool a2.2.2] tR6) (star (blk g9 #[.int .i64 ((a1.1 : Nat) : Int), .int .i64 ((a2.1 : Nat) : Int), .int .i64 0, .int .i64 0, .string ⟨#[]⟩, .int .i64 0, .int .i64 0, .int .i64 0, .int .i64 0, .int .i64 0, .slice none 0 0, .slice none 0 0, .slice none 0 0] tMsg) (star (blk z zeroMs tMsg) L))) := H9
  clear H8 l8 n8 c8 z8
  generalize (World.setCell ..) = w9 at H9 ⊢
  have H7 := H9
  have hp1 := hp2
  clear H9 hp2
  go_wp2_with fail
  refine (rr_num (k := 2) (by decide) H7 hr0 hp1 HBL.out).mono ?_
  rintro e w8 ⟨at2, rfl, H8, hp2⟩
  obtain ⟨a3, ha⟩ : ∃ a, a = pNum 2 a2.2 := ⟨_, rfl⟩
  rw [← ha] at H8 hp2 ⊢
  have A3 := Hid.mk' ha
  clear ha H7 hp1
  obtain ⟨l8, n8, c8, z8⟩ := Holds.facts (H8.swap)
  go_upto_region 9 with fail
  have H9 := (H8.swap.set 2 (.int .i64 ((a3.1 : Nat) : Int))).swap
  replace H9 : Holds _ R (star (blk p3 #[.slice ax n cx, .int .i64 (at2 : Nat), .bool a3.2.2] tR6) (star (blk g9 #[.int .i64 ((a1.1 : Nat) : Int), .int .i64 ((a2.1 : Nat) : Int), .int .i64 ((a3.1 : Nat) : Int), .int .i64 0, .string ⟨#[]⟩, .int .i64 0, .int .i64 0, .int .i64 0, .int .i64 0, .int .i64 0, .slice none 0 0, .slice none 0 0, .slice none 0 0] tMsg) (star (blk z zeroMs tMsg) L))) := H9
  clear H8 l8 n8 c8 z8
  generalize (World.setCell ..) = w9 at H9 ⊢
  have H7 := H9
  have hp1 := hp2
  clear H9 hp2
  go_wp2_with fail
  refine (rr_num (k := 4) (by decide) H7 hr0 hp1 HBL.out).mono ?_
  rintro e w8 ⟨at2, rfl, H8, hp2⟩
  obtain ⟨a4, ha⟩ : ∃ a, a = pNum 4 a3.2 := ⟨_, rfl⟩
  rw [← ha] at H8 hp2 ⊢
  have A4 := Hid.mk' ha
  clear ha H7 hp1
  obtain ⟨l8, n8, c8, z8⟩ := Holds.facts (H8.swap)
  go_upto_region 10 with fail
  have H9 := (H8.swap.set 3 (.int .i64 ((a4.1 : Nat) : Int))).swap
  replace H9 : Holds _ R (star (blk p3 #[.slice ax n cx, .int .i64 (at2 : Nat), .bool a4.2.2] tR6) (star (blk g9 #[.int .i64 ((a1.1 : Nat) : Int), .int .i64 ((a2.1 : Nat) : Int), .int .i64 ((a3.1 : Nat) : Int), .int .i64 ((a4.1 : Nat) : Int), .string ⟨#[]⟩, .int .i64 0, .int .i64 0, .int .i64 0, .int .i64 0, .int .i64 0, .slice none 0 0, .slice none 0 0, .slice none 0 0] tMsg) (star (blk z zeroMs tMsg) L))) := H9
  clear H8 l8 n8 c8 z8
  generalize (World.setCell ..) = w9 at H9 ⊢
  have H7 := H9
  have hp1 := hp2
  clear H9 hp2
  go_wp2_with fail
  refine (rr_text H7 hr0 hp1 HBL.out).mono ?_
  rintro e w8 ⟨o8, at2, rfl, H8, hp2⟩
  have hbt5 := pText_lt a4.2
  obtain ⟨a5, ha⟩ : ∃ a, a = pText a4.2 := ⟨_, rfl⟩
  rw [← ha] at H8 hp2 hbt5
  have A5 := Hid.mk' ha
  clear ha H7 hp1
  have hcv := convStr H8.rowRd
  obtain ⟨ao, co, rfl⟩ := H8.rowRd.form
  replace H8 := H8.drop
  obtain ⟨l8, n8, c8, z8⟩ := Holds.facts (H8.swap)
  go_upto_region 11 with fail
  clear hcv
  have H9 := (H8.swap.set 4 (.string ⟨a5.1.toArray⟩)).swap
  replace H9 : Holds _ R (star (blk p3 #[.slice ax n cx, .int .i64 (at2 : Nat), .bool a5.2.2] tR6) (star (blk g9 #[.int .i64 ((a1.1 : Nat) : Int), .int .i64 ((a2.1 : Nat) : Int), .int .i64 ((a3.1 : Nat) : Int), .int .i64 ((a4.1 : Nat) : Int), .string ⟨a5.1.toArray⟩, .int .i64 0, .int .i64 0, .int .i64 0, .int .i64 0, .int .i64 0, .slice none 0 0, .slice none 0 0, .slice none 0 0] tMsg) (star (blk z zeroMs tMsg) L))) := H9
  clear H8 l8 n8 c8 z8
  generalize (World.setCell ..) = w9 at H9 ⊢
  have H7 := H9
  have hp1 := hp2
  clear H9 hp2
  go_wp2_with fail
  refine (rr_num (k := 4) (by decide) H7 hr0 hp1 HBL.out).mono ?_
  rintro e w8 ⟨at2, rfl, H8, hp2⟩
  obtain ⟨a6, ha⟩ : ∃ a, a = pNum 4 a5.2 := ⟨_, rfl⟩
  rw [← ha] at H8 hp2 ⊢
  have A6 := Hid.mk' ha
  clear ha H7 hp1
  obtain ⟨l8, n8, c8, z8⟩ := Holds.facts (H8.swap)
  go_upto_region 12 with fail
  have H9 := (H8.swap.set 5 (.int .i64 ((a6.1 : Nat) : Int))).swap
  replace H9 : Holds _ R (star (blk p3 #[.slice ax n cx, .int .i64 (at2 : Nat), .bool a6.2.2] tR6) (star (blk g9 #[.int .i64 ((a1.1 : Nat) : Int), .int .i64 ((a2.1 : Nat) : Int), .int .i64 ((a3.1 : Nat) : Int), .int .i64 ((a4.1 : Nat) : Int), .string ⟨a5.1.toArray⟩, .int .i64 ((a6.1 : Nat) : Int), .int .i64 0, .int .i64 0, .int .i64 0, .int .i64 0, .slice none 0 0, .slice none 0 0, .slice none 0 0] tMsg) (star (blk z zeroMs tMsg) L))) := H9
  clear H8 l8 n8 c8 z8
  generalize (World.setCell ..) = w9 at H9 ⊢
  have H7 := H9
  have hp1 := hp2
  clear H9 hp2
  go_wp2_with fail
  refine (rr_num (k := 4) (by decide) H7 hr0 hp1 HBL.out).mono ?_
  rintro e w8 ⟨at2, rfl, H8, hp2⟩
  obtain ⟨a7, ha⟩ : ∃ a, a = pNum 4 a6.2 := ⟨_, rfl⟩
  rw [← ha] at H8 hp2 ⊢
  have A7 := Hid.mk' ha
  clear ha H7 hp1
  obtain ⟨l8, n8, c8, z8⟩ := Holds.facts (H8.swap)
  go_upto_region 13 with fail
  have H9 := (H8.swap.set 6 (.int .i64 ((a7.1 : Nat) : Int))).swap
  replace H9 : Holds _ R (star (blk p3 #[.slice ax n cx, .int .i64 (at2 : Nat), .bool a7.2.2] tR6) (star (blk g9 #[.int .i64 ((a1.1 : Nat) : Int), .int .i64 ((a2.1 : Nat) : Int), .int .i64 ((a3.1 : Nat) : Int), .int .i64 ((a4.1 : Nat) : Int), .string ⟨a5.1.toArray⟩, .int .i64 ((a6.1 : Nat) : Int), .int .i64 ((a7.1 : Nat) : Int), .int .i64 0, .int .i64 0, .int .i64 0, .slice none 0 0, .slice none 0 0, .slice none 0 0] tMsg) (star (blk z zeroMs tMsg) L))) := H9
  clear H8 l8 n8 c8 z8
  generalize (World.setCell ..) = w9 at H9 ⊢
  have H7 := H9
  have hp1 := hp2
  clear H9 hp2
  go_wp2_with fail
  refine (rr_num (k := 4) (by decide) H7 hr0 hp1 HBL.out).mono ?_
  rintro e w8 ⟨at2, rfl, H8, hp2⟩
  obtain ⟨a8, ha⟩ : ∃ a, a = pNum 4 a7.2 := ⟨_, rfl⟩
  rw [← ha] at H8 hp2 ⊢
  have A8 := Hid.mk' ha
  clear ha H7 hp1
  obtain ⟨l8, n8, c8, z8⟩ := Holds.facts (H8.swap)
  go_upto_region 14 with fail
  have H9 := (H8.swap.set 7 (.int .i64 ((a8.1 : Nat) : Int))).swap
  replace H9 : Holds _ R (star (blk p3 #[.slice ax n cx, .int .i64 (at2 : Nat), .bool a8.2.2] tR6) (star (blk g9 #[.int .i64 ((a1.1 : Nat) : Int), .int .i64 ((a2.1 : Nat) : Int), .int .i64 ((a3.1 : Nat) : Int), .int .i64 ((a4.1 : Nat) : Int), .string ⟨a5.1.toArray⟩, .int .i64 ((a6.1 : Nat) : Int), .int .i64 ((a7.1 : Nat) : Int), .int .i64 ((a8.1 : Nat) : Int), .int .i64 0, .int .i64 0, .slice none 0 0, .slice none 0 0, .slice none 0 0] tMsg) (star (blk z zeroMs tMsg) L))) := H9
  clear H8 l8 n8 c8 z8
  generalize (World.setCell ..) = w9 at H9 ⊢
  have H7 := H9
  have hp1 := hp2
  clear H9 hp2
  go_wp2_with fail
  refine (rr_num (k := 2) (by decide) H7 hr0 hp1 HBL.out).mono ?_
  rintro e w8 ⟨at2, rfl, H8, hp2⟩
  obtain ⟨a9, ha⟩ : ∃ a, a = pNum 2 a8.2 := ⟨_, rfl⟩
  rw [← ha] at H8 hp2 ⊢
  have A9 := Hid.mk' ha
  clear ha H7 hp1
  obtain ⟨l8, n8, c8, z8⟩ := Holds.facts (H8.swap)
  go_upto_region 15 with fail
  have H9 := (H8.swap.set 8 (.int .i64 ((a9.1 : Nat) : Int))).swap
  replace H9 : Holds _ R (star (blk p3 #[.slice ax n cx, .int .i64 (at2 : Nat), .bool a9.2.2] tR6) (star (blk g9 #[.int .i64 ((a1.1 : Nat) : Int), .int .i64 ((a2.1 : Nat) : Int), .int .i64 ((a3.1 : Nat) : Int), .int .i64 ((a4.1 : Nat) : Int), .string ⟨a5.1.toArray⟩, .int .i64 ((a6.1 : Nat) : Int), .int .i64 ((a7.1 : Nat) : Int), .int .i64 ((a8.1 : Nat) : Int), .int .i64 ((a9.1 : Nat) : Int), .int .i64 0, .slice none 0 0, .slice none 0 0, .slice none 0 0] tMsg) (star (blk z zeroMs tMsg) L))) := H9
  clear H8 l8 n8 c8 z8
  generalize (World.setCell ..) = w9 at H9 ⊢
  have H7 := H9
  have hp1 := hp2
  clear H9 hp2
  go_wp2_with fail
  refine (rr_num (k := 1) (by decide) H7 hr0 hp1 HBL.out).mono ?_
  rintro e w8 ⟨at2, rfl, H8, hp2⟩
  obtain ⟨a10, ha⟩ : ∃ a, a = pNum 1 a9.2 := ⟨_, rfl⟩
  rw [← ha] at H8 hp2 ⊢
  have A10 := Hid.mk' ha
  clear ha H7 hp1
  obtain ⟨l8, n8, c8, z8⟩ := Holds.facts (H8.swap)
  go_upto_region 16 with fail
  have H9 := (H8.swap.set 9 (.int .i64 ((a10.1 : Nat) : Int))).swap
  replace H9 : Holds _ R (star (blk p3 #[.slice ax n cx, .int .i64 (at2 : Nat), .bool a10.2.2] tR6) (star (blk g9 #[.int .i64 ((a1.1 : Nat) : Int), .int .i64 ((a2.1 : Nat) : Int), .int .i64 ((a3.1 : Nat) : Int), .int .i64 ((a4.1 : Nat) : Int), .string ⟨a5.1.toArray⟩, .int .i64 ((a6.1 : Nat) : Int), .int .i64 ((a7.1 : Nat) : Int), .int .i64 ((a8.1 : Nat) : Int), .int .i64 ((a9.1 : Nat) : Int), .int .i64 ((a10.1 : Nat) : Int), .slice none 0 0, .slice none 0 0, .slice none 0 0] tMsg) (star (blk z zeroMs tMsg) L))) := H9
  clear H8 l8 n8 c8 z8
  generalize (World.setCell ..) = w9 at H9 ⊢
  have H7 := H9
  have hp1 := hp2
  clear H9 hp2
  go_wp2_with fail
  refine (rr_num (k := 1) (by decide) H7 hr0 hp1 HBL.out).mono ?_
  rintro e w8 ⟨at2, rfl, H8, hp2⟩
  have hlt11 := pNum1_lt a10.2
  obtain ⟨a11, ha⟩ : ∃ a, a = pNum 1 a10.2 := ⟨_, rfl⟩
  rw [← ha] at H8 hp2 hlt11 ⊢
  have A11 := Hid.mk' ha
  clear ha H7 hp1
  obtain ⟨a12, ha⟩ : ∃ a, a = pMany (pNum 4) a11.1 a11.2 := ⟨_, rfl⟩
  have A12 := Hid.mk' ha
  clear ha
  go_upto_block 0 with fail
  go_cut [] (fun wx => ∃ (o : Value) (at3 : Nat), Pos b at3 a12.2 ∧ Holds wx R (star (row tInt 1 o a12.1.length ((toInts a12.1).map (Value.int .i64))) (star (blk p3 #[.slice ax n cx, .int .i64 (at3 : Nat), .bool a12.2.2] tR6) (star (blk g9 #[.int .i64 ((a1.1 : Nat) : Int), .int .i64 ((a2.1 : Nat) : Int), .int .i64 ((a3.1 : Nat) : Int), .int .i64 ((a4.1 : Nat) : Int), .string ⟨a5.1.toArray⟩, .int .i64 ((a6.1 : Nat) : Int), .int .i64 ((a7.1 : Nat) : Int), .int .i64 ((a8.1 : Nat) : Int), .int .i64 ((a9.1 : Nat) : Int), .int .i64 ((a10.1 : Nat) : Int), o, .slice none 0 0, .slice none 0 0] tMsg) (star (blk z zeroMs tMsg) L)))))
  case first =>
    go_wp2_with fail
    go_loopw [8] (fun i wx => ∃ (j : Nat) (X : List Nat) (s2 : PSt) (at2 : Nat) (o : Value), i = .int .i64 j ∧ j ≤ a11.1 ∧ Hid (X.length = j) ∧ Hid (a12 = (X ++ (pMany (pNum 4) (a11.1 - j) s2).1, (pMany (pNum 4) (a11.1 - j) s2).2)) ∧ Hid (Pos b at2 s2) ∧ Holds wx R (star (row tInt 1 o j ((toInts X).map (Value.int .i64))) (star (blk p3 #[.slice ax n cx, .int .i64 (at2 : Nat), .bool s2.2] tR6) (star (blk g9 #[.int .i64 ((a1.1 : Nat) : Int), .int .i64 ((a2.1 : Nat) : Int), .int .i64 ((a3.1 : Nat) : Int), .int .i64 ((a4.1 : Nat) : Int), .string ⟨a5.1.toArray⟩, .int .i64 ((a6.1 : Nat) : Int), .int .i64 ((a7.1 : Nat) : Int), .int .i64 ((a8.1 : Nat) : Int), .int .i64 ((a9.1 : Nat) : Int), .int .i64 ((a10.1 : Nat) : Int), o, .slice none 0 0, .slice none 0 0] tMsg) (star (blk z zeroMs tMsg) L))))) (fun i _ => a11.1 - (intOf i).toNat)
    case atStart => exact ⟨0, [], a11.2, at2, _, rfl, Nat.zero_le _, Hid.mk' rfl, Hid.mk' (by rw [A12.out]; rfl), Hid.mk' hp2, H8.nilRow _ 1⟩
    case round =>
      clear H8 hp2
      obtain ⟨j, X, s2, at3, o, rfl, hj, hX, hQ, hP, H3⟩ := hrel
      obtain ⟨ao, co, rfl⟩ := H3.rowRd.form
      by_cases hlt : j < a11.1
      · have d1 : decide ((j : Int) < (a11.1 : Int)) = true := by simp; omega
        cases hb : s2.2 with
        | true =>
          have H3f := H3
          rw [hb] at H3f
          obtain ⟨l3, n3, c3, z3⟩ := Holds.facts (H3f.swap)
          go_wp2_with fail
          go_meet
          case rel =>
            have h := hQ.out
            rw [pMany_bad hb, List.append_nil] at h
            refine ⟨.slice ao j co, at3, by rw [h]; exact hP.out, ?_⟩
            rw [h]
            simp only [hX.out]
            exact H3
        | false =>
          have H3f := H3
          rw [hb] at H3f
          obtain ⟨l3, n3, c3, z3⟩ := Holds.facts (H3f.swap)
          obtain ⟨l4, n4, c4, z4⟩ := Holds.facts (H3f.pick3)
          have hj9 : j ≤ 1000 := by omega
          go_upto_region 20 with fail
          go_region_law ((first | (go_simp; go_at_call 137; refine (rr_num (s := s2) (k := 4) (by decide) H3.swap.drew hr0 hP.out HBL.out).mono ?_; rintro e w5 ⟨at5, rfl, H5, hp5⟩; obtain ⟨l5, n5, cp5, fp5⟩ := H5.pick3.facts; have H6 := H5.alloc #[.int .i64 ((pNum 4 s2).1 : Nat)] tInt; have hr6 : RdI _ _ [((pNum 4 s2).1 : Int)] := (H6.toRow 1 1 1 (Nat.le_refl _) (by simp [maxLen]) rfl).rowRd) | (refine step_append rfl _ _ (by rfl) undInts infoInt rfl (by decide) (by rfl) (by rfl) H6.drop.swap hr6 (ints_one _) (by simp only [maxLen, List.length_singleton]; omega) (by simp only [List.length_singleton]; omega) ?_; intro v6 w6 H7; obtain ⟨a6, c6, rfl⟩ := H7.rowRd.form; have cp6 := H7.pick3.blkCell; have fp6 := H7.pick3.blkFrozen)))
          all_goals
            go_wp2_with fail
            go_roundw
            case rel =>
              have H8 := H7.pick3.set 10 (.slice a6 (j + 1) c6)
              refine ⟨j + 1, X ++ [(pNum 4 s2).1], (pNum 4 s2).2, at5, .slice a6 (j + 1) c6, by go_num, hlt, Hid.mk' (by rw [List.length_append, hX.out]; rfl), Hid.mk' ?_, Hid.mk' hp5, ?_⟩
              · rw [hQ.out, show a11.1 - j = (a11.1 - (j + 1)) + 1 by omega, pMany_more hb]; simp
              · have e : (toInts (X ++ [(pNum 4 s2).1])).map (Value.int .i64) = (toInts X).map (Value.int .i64) ++ (toInts [(pNum 4 s2).1]).map (Value.int .i64) := by simp [toInts, toStrs]
                rw [e]
                exact H8.ac (by ac_rfl)
            case measure => simp [intOf]; omega
      · have d1 : decide ((j : Int) < (a11.1 : Int)) = false := by simp; omega
        go_wp2_with fail
        go_meet
        case rel =>
          have h := hQ.out
          rw [show a11.1 - j = 0 by omega, pMany, List.append_nil] at h
          refine ⟨.slice ao j co, at3, by rw [h]; exact hP.out, ?_⟩
          rw [h]
          simp only [hX.out]
          exact H3
  clear H8 hp2
  obtain ⟨o, at4, hp1, H7⟩ := hcut
  have hn12 : (toInts a12.1).length ≤ 255 := by
    rw [toInts, List.length_map, A12.out]
    have h1 := pMany_len (pNum 4) a11.1 a11.2
    omega
  have HN12 := Hid.mk' hn12
  obtain ⟨R8, le8, H8f, hw⟩ := H7.freezeRow
  clear H7 hn12
  have H7 := H8f
  clear H8f
  replace hr0 := Rd.le hr0 le8
  have leA := le8
  clear le8
  replace hw : RdI R8.cell? o (toInts a12.1) := by rw [show a12.1.length = (toInts a12.1).length by simp [toInts]] at hw; exact hw
  obtain ⟨aw, cw, rfl⟩ := hw.form
  have HWR := Hid.mk' hw
  clear hw
  go_wp2_with fail
  refine (rr_num (k := 1) (by decide) H7 hr0 hp1 HBL.out).mono ?_
  rintro e w8 ⟨at2, rfl, H8, hp2⟩
  have hlt13 := pNum1_lt a12.2
  obtain ⟨a13, ha⟩ : ∃ a, a = pNum 1 a12.2 := ⟨_, rfl⟩
  rw [← ha] at H8 hp2 hlt13 ⊢
  have A13 := Hid.mk' ha
  clear ha H7 hp1
  obtain ⟨a14, ha⟩ : ∃ a, a = pMany (pText) a13.1 a13.2 := ⟨_, rfl⟩
  have A14 := Hid.mk' ha
  clear ha
  go_upto_block 2 with fail
  go_cut [] (fun wx => ∃ (o : Value) (at3 : Nat), Pos b at3 a14.2 ∧ Holds wx R8 (star (row tStr 1 o a14.1.length ((toStrs a14.1).map Value.string)) (star (blk p3 #[.slice ax n cx, .int .i64 (at3 : Nat), .bool a14.2.2] tR6) (star (blk g9 #[.int .i64 ((a1.1 : Nat) : Int), .int .i64 ((a2.1 : Nat) : Int), .int .i64 ((a3.1 : Nat) : Int), .int .i64 ((a4.1 : Nat) : Int), .string ⟨a5.1.toArray⟩, .int .i64 ((a6.1 : Nat) : Int), .int .i64 ((a7.1 : Nat) : Int), .int .i64 ((a8.1 : Nat) : Int), .int .i64 ((a9.1 : Nat) : Int), .int .i64 ((a10.1 : Nat) : Int), .slice aw (toInts a12.1).length cw, o, .slice none 0 0] tMsg) (star (blk z zeroMs tMsg) L)))))
  case first =>
    go_wp2_with fail
    go_loopw [10] (fun i wx => ∃ (j : Nat) (X : List (List UInt8)) (s2 : PSt) (at2 : Nat) (o : Value), i = .int .i64 j ∧ j ≤ a13.1 ∧ Hid (X.length = j) ∧ Hid (a14 = (X ++ (pMany (pText) (a13.1 - j) s2).1, (pMany (pText) (a13.1 - j) s2).2)) ∧ Hid (Pos b at2 s2) ∧ Holds wx R8 (star (row tStr 1 o j ((toStrs X).map Value.string)) (star (blk p3 #[.slice ax n cx, .int .i64 (at2 : Nat), .bool s2.2] tR6) (star (blk g9 #[.int .i64 ((a1.1 : Nat) : Int), .int .i64 ((a2.1 : Nat) : Int), .int .i64 ((a3.1 : Nat) : Int), .int .i64 ((a4.1 : Nat) : Int), .string ⟨a5.1.toArray⟩, .int .i64 ((a6.1 : Nat) : Int), .int .i64 ((a7.1 : Nat) : Int), .int .i64 ((a8.1 : Nat) : Int), .int .i64 ((a9.1 : Nat) : Int), .int .i64 ((a10.1 : Nat) : Int), .slice aw (toInts a12.1).length cw, o, .slice none 0 0] tMsg) (star (blk z zeroMs tMsg) L))))) (fun i _ => a13.1 - (intOf i).toNat)
    case atStart => exact ⟨0, [], a13.2, at2, _, rfl, Nat.zero_le _, Hid.mk' rfl, Hid.mk' (by rw [A14.out]; rfl), Hid.mk' hp2, H8.nilRow _ 1⟩
    case round =>
      clear H8 hp2
      obtain ⟨j, X, s2, at3, o, rfl, hj, hX, hQ, hP, H3⟩ := hrel
      obtain ⟨ao, co, rfl⟩ := H3.rowRd.form
      by_cases hlt : j < a13.1
      · have d1 : decide ((j : Int) < (a13.1 : Int)) = true := by simp; omega
        cases hb : s2.2 with
        | true =>
          have H3f := H3
          rw [hb] at H3f
          obtain ⟨l3, n3, c3, z3⟩ := Holds.facts (H3f.swap)
          go_wp2_with fail
          go_meet
          case rel =>
            have h := hQ.out
            rw [pMany_bad hb, List.append_nil] at h
            refine ⟨.slice ao j co, at3, by rw [h]; exact hP.out, ?_⟩
            rw [h]
            simp only [hX.out]
            exact H3
        | false =>
          have H3f := H3
          rw [hb] at H3f
          obtain ⟨l3, n3, c3, z3⟩ := Holds.facts (H3f.swap)
          obtain ⟨l4, n4, c4, z4⟩ := Holds.facts (H3f.pick3)
          have hj9 : j ≤ 1000 := by omega
          go_upto_region 25 with fail
          go_region_law ((first | (go_simp; go_at_call 138; refine (rr_text (s := s2) H3.swap.drew hr0 hP.out HBL.out).mono ?_; rintro e w5 ⟨o5, at5, rfl, H5, hp5⟩; have hcv := convStr H5.rowRd; obtain ⟨a5, c5, rfl⟩ := H5.rowRd.form; replace H5 := H5.drop; obtain ⟨l5, n5, cp5, fp5⟩ := H5.pick3.facts; have H6 := H5.alloc #[.string ⟨(pText s2).1.toArray⟩] tStr; have hr6 : RdS _ _ [(⟨(pText s2).1.toArray⟩ : ByteArray)] := (H6.toRow 1 1 1 (Nat.le_refl _) (by simp [maxLen]) rfl).rowRd) | (refine step_append rfl _ _ (by rfl) undStrs infoStr rfl (by decide) (by rfl) (by rfl) H6.drop.swap hr6 (strs_one _) (by simp only [maxLen, List.length_singleton]; omega) (by simp only [List.length_singleton]; omega) ?_; intro v6 w6 H7; obtain ⟨a6, c6, rfl⟩ := H7.rowRd.form; have cp6 := H7.pick3.blkCell; have fp6 := H7.pick3.blkFrozen)))
          all_goals
            go_wp2_with fail
            go_roundw
            case rel =>
              have H8 := H7.pick3.set 11 (.slice a6 (j + 1) c6)
              refine ⟨j + 1, X ++ [(pText s2).1], (pText s2).2, at5, .slice a6 (j + 1) c6, by go_num, hlt, Hid.mk' (by rw [List.length_append, hX.out]; rfl), Hid.mk' ?_, Hid.mk' hp5, ?_⟩
              · rw [hQ.out, show a13.1 - j = (a13.1 - (j + 1)) + 1 by omega, pMany_more hb]; simp
              · have e : (toStrs (X ++ [(pText s2).1])).map Value.string = (toStrs X).map Value.string ++ (toStrs [(pText s2).1]).map Value.string := by simp [toInts, toStrs]
                rw [e]
                exact H8.ac (by ac_rfl)
            case measure => simp [intOf]; omega
      · have d1 : decide ((j : Int) < (a13.1 : Int)) = false := by simp; omega
        go_wp2_with fail
        go_meet
        case rel =>
          have h := hQ.out
          rw [show a13.1 - j = 0 by omega, pMany, List.append_nil] at h
          refine ⟨.slice ao j co, at3, by rw [h]; exact hP.out, ?_⟩
          rw [h]
          simp only [hX.out]
          exact H3
  clear H8 hp2
  obtain ⟨o, at4, hp1, H7⟩ := hcut
  have hn14 : (toStrs a14.1).length ≤ 255 := by
    rw [toStrs, List.length_map, A14.out]
    have h1 := pMany_len pText a13.1 a13.2
    omega
  have hs14 : ∀ s ∈ toStrs a14.1, s.size ≤ maxLen := by
    intro s hs
    obtain ⟨y, hy, rfl⟩ := List.mem_map.1 hs
    rw [A14.out] at hy
    have h1 := pMany_all (Q := fun l : List UInt8 => l.length ≤ 255) pText_lt _ _ y hy
    have h2 : (⟨y.toArray⟩ : ByteArray).size = y.length := by show y.toArray.size = _; simp
    rw [h2]; simp only [maxLen]; omega
  have HN14 := Hid.mk' hn14
  have HS14 := Hid.mk' hs14
  clear hn14 hs14
  obtain ⟨R9, le8, H8f, hw⟩ := H7.freezeRow
  clear H7
  have H7 := H8f
  clear H8f
  replace leA := leA.trans le8
  replace hr0 := Rd.le hr0 le8
  replace HWR := Hid.mk' (Rd.le HWR.out le8)
  clear le8
  replace hw : RdS R9.cell? o (toStrs a14.1) := by rw [show a14.1.length = (toStrs a14.1).length by simp [toStrs]] at hw; exact hw
  obtain ⟨an, cn, rfl⟩ := hw.form
  have HNR := Hid.mk' hw
  clear hw
  go_wp2_with fail
  refine (rr_text H7 hr0 hp1 HBL.out).mono ?_
  rintro e w8 ⟨o, at2, rfl, H8, hp2⟩
  obtain ⟨a15, ha⟩ : ∃ a, a = pText a14.2 := ⟨_, rfl⟩
  rw [← ha] at H8 hp2
  have A15 := Hid.mk' ha
  have hn15 : a15.1.length ≤ 255 := by rw [ha]; exact pText_lt _
  have HN15 := Hid.mk' hn15
  clear ha H7 hp1 hn15
  obtain ⟨R10, le8, H8f, hw⟩ := H8.freezeRow
  clear H8
  have H8 := H8f
  clear H8f
  replace leA := leA.trans le8
  replace HWR := Hid.mk' (Rd.le HWR.out le8)
  replace HNR := Hid.mk' (Rd.le HNR.out le8)
  clear le8 hr0
  replace hw : RdB R10.cell? o a15.1 := hw
  obtain ⟨ad, cd, rfl⟩ := hw.form
  have HDR := Hid.mk' hw
  clear hw
  obtain ⟨l8, n8, c8, z8⟩ := Holds.facts (H8.swap)
  go_upto_region 27 with fail
  have H9 := (H8.swap.set 12 (.slice ad a15.1.length cd)).swap
  replace H9 : Holds _ R10 (star (blk p3 #[.slice ax n cx, .int .i64 (at2 : Nat), .bool a15.2.2] tR6) (star (blk g9 #[.int .i64 ((a1.1 : Nat) : Int), .int .i64 ((a2.1 : Nat) : Int), .int .i64 ((a3.1 : Nat) : Int), .int .i64 ((a4.1 : Nat) : Int), .string ⟨a5.1.toArray⟩, .int .i64 ((a6.1 : Nat) : Int), .int .i64 ((a7.1 : Nat) : Int), .int .i64 ((a8.1 : Nat) : Int), .int .i64 ((a9.1 : Nat) : Int), .int .i64 ((a10.1 : Nat) : Int), .slice aw (toInts a12.1).length cw, .slice an (toStrs a14.1).length cn, .slice ad a15.1.length cd] tMsg) (star (blk z zeroMs tMsg) L))) := H9
  clear H8 l8 n8 c8 z8
  generalize (World.setCell ..) = w9 at H9 ⊢
  have e0 : q0 b = a0 := by rw [A0.out]; rfl
  have e1 : q1 b = a1 := by unfold q1; rw [e0, ← A1.out]
  have e2 : q2 b = a2 := by unfold q2; rw [e1, ← A2.out]
  have e3 : q3 b = a3 := by unfold q3; rw [e2, ← A3.out]
  have e4 : q4 b = a4 := by unfold q4; rw [e3, ← A4.out]
  have e5 : q5 b = a5 := by unfold q5; rw [e4, ← A5.out]
  have e6 : q6 b = a6 := by unfold q6; rw [e5, ← A6.out]
  have e7 : q7 b = a7 := by unfold q7; rw [e6, ← A7.out]
  have e8 : q8 b = a8 := by unfold q8; rw [e7, ← A8.out]
  have e9 : q9 b = a9 := by unfold q9; rw [e8, ← A9.out]
  have e10 : q10 b = a10 := by unfold q10; rw [e9, ← A10.out]
  have e11 : q11 b = a11 := by unfold q11; rw [e10, ← A11.out]
  have e12 : q12 b = a12 := by unfold q12; rw [e11, ← A12.out]
  have e13 : q13 b = a13 := by unfold q13; rw [e12, ← A13.out]
  have e14 : q14 b = a14 := by unfold q14; rw [e13, ← A14.out]
  have e15 : q15 b = a15 := by unfold q15; rw [e14, ← A15.out]
  have hMc : Ms.con (⟨((a1.1 : Nat) : Int), ((a2.1 : Nat) : Int), ((a3.1 : Nat) : Int), ((a4.1 : Nat) : Int), ⟨a5.1.toArray⟩, ((a6.1 : Nat) : Int), ((a7.1 : Nat) : Int), ((a8.1 : Nat) : Int), ((a9.1 : Nat) : Int), ((a10.1 : Nat) : Int), .slice aw (toInts a12.1).length cw, .slice an (toStrs a14.1).length cn, .slice ad a15.1.length cd, toInts a12.1, toStrs a14.1, a15.1⟩ : Ms) = (gotM b).con := by
    unfold gotM
    rw [e1, e2, e3, e4, e5, e6, e7, e8, e9, e10, e12, e14, e15]
    rfl
  have hMr : Ms.Rd R10.cell? (⟨((a1.1 : Nat) : Int), ((a2.1 : Nat) : Int), ((a3.1 : Nat) : Int), ((a4.1 : Nat) : Int), ⟨a5.1.toArray⟩, ((a6.1 : Nat) : Int), ((a7.1 : Nat) : Int), ((a8.1 : Nat) : Int), ((a9.1 : Nat) : Int), ((a10.1 : Nat) : Int), .slice aw (toInts a12.1).length cw, .slice an (toStrs a14.1).length cn, .slice ad a15.1.length cd, toInts a12.1, toStrs a14.1, a15.1⟩ : Ms) := ⟨HWR.out, HNR.out, HDR.out⟩
  have hMz : Ms.Sz (⟨((a1.1 : Nat) : Int), ((a2.1 : Nat) : Int), ((a3.1 : Nat) : Int), ((a4.1 : Nat) : Int), ⟨a5.1.toArray⟩, ((a6.1 : Nat) : Int), ((a7.1 : Nat) : Int), ((a8.1 : Nat) : Int), ((a9.1 : Nat) : Int), ((a10.1 : Nat) : Int), .slice aw (toInts a12.1).length cw, .slice an (toStrs a14.1).length cn, .slice ad a15.1.length cd, toInts a12.1, toStrs a14.1, a15.1⟩ : Ms) := ⟨by show a5.1.toArray.size ≤ maxLen; rw [List.size_toArray]; simp only [maxLen]; omega, HS14.out, by show (toInts a12.1).length ≤ 1000000; have := HN12.out; omega, by show (toStrs a14.1).length ≤ 1000000; have := HN14.out; omega, by show a15.1.length ≤ 1000000; have := HN15.out; omega⟩
  have hok : msgOk (⟨((a1.1 : Nat) : Int), ((a2.1 : Nat) : Int), ((a3.1 : Nat) : Int), ((a4.1 : Nat) : Int), ⟨a5.1.toArray⟩, ((a6.1 : Nat) : Int), ((a7.1 : Nat) : Int), ((a8.1 : Nat) : Int), ((a9.1 : Nat) : Int), ((a10.1 : Nat) : Int), .slice aw (toInts a12.1).length cw, .slice an (toStrs a14.1).length cn, .slice ad a15.1.length cd, toInts a12.1, toStrs a14.1, a15.1⟩ : Ms) = msgOk (gotM b) := msgOk_con hMc
  have hro : readOk b = (decide (a0.1 = 77) && !a15.2.2 && decide (at2 = n) && msgOk (gotM b)) := by
    have h := hp2.done
    rw [HBN.out] at h
    unfold readOk
    rw [e0, e15, decide_eq_decide.2 h]
  clear e0 e1 e2 e3 e4 e5 e6 e7 e8 e9 e10 e11 e12 e13 e14 e15
  obtain ⟨ok, hok2⟩ : ∃ ok, ok = msgOk (gotM b) := ⟨_, rfl⟩
  rw [← hok2] at hok hro
  obtain ⟨rb, hrb⟩ : ∃ rb, rb = readOk b := ⟨_, rfl⟩
  rw [← hrb] at hro
  have HRB := Hid.mk' hrb
  have HRO := Hid.mk' hro
  have HMC := Hid.mk' hMc
  have HMR := Hid.mk' hMr
  have HMZ := Hid.mk' hMz
  have HOK := Hid.mk' hok
  clear hMc hMr hMz hok hok2 hbt5 hro hrb hp2 hlt11 hlt13
  obtain ⟨bad, hbad⟩ : ∃ bad, bad = a15.2.2 := ⟨_, rfl⟩
  rw [← hbad] at H9
  have HRO2 : Hid (rb = (decide (a0.1 = 77) && !bad && decide (at2 = n) && ok)) := by rw [hbad]; exact HRO
  clear hbad HRO
  go_cut [126] (fun c wx => c = .bool (!rb) ∧ Holds wx R10 (star (blk p3 #[.slice ax n cx, .int .i64 (at2 : Nat), .bool bad] tR6) (star (blk g9 #[.int .i64 ((a1.1 : Nat) : Int), .int .i64 ((a2.1 : Nat) : Int), .int .i64 ((a3.1 : Nat) : Int), .int .i64 ((a4.1 : Nat) : Int), .string ⟨a5.1.toArray⟩, .int .i64 ((a6.1 : Nat) : Int), .int .i64 ((a7.1 : Nat) : Int), .int .i64 ((a8.1 : Nat) : Int), .int .i64 ((a9.1 : Nat) : Int), .int .i64 ((a10.1 : Nat) : Int), .slice aw (toInts a12.1).length cw, .slice an (toStrs a14.1).length cn, .slice ad a15.1.length cd] tMsg) (star (blk z zeroMs tMsg) L))))
  case first =>
    obtain ⟨l8, n8, c8, z8⟩ := Holds.facts (H9)
    obtain ⟨l9, n9, c9, z9⟩ := Holds.facts (H9.swap)
    obtain ⟨s1, s2⟩ := Holds.apart H9
    by_cases h77 : a0.1 = 77
    · have d77 : (((a0.1 : Nat) : Int) != 77) = false := by simp; omega
      have K77 := Hid.mk' h77
      clear h77
      cases bad with
      | true =>
        go_quiet (fail)
        go_wp2_with fail
        go_meet
        case rel =>
          exact ⟨by have h := HRO2.out; simp at h; rw [h]; rfl, H9.drewN _⟩
      | false =>
        by_cases hat : at2 = n
        · have HD : Hid (rb = ok) := Hid.mk' (by have h := HRO2.out; rw [K77.out, hat] at h; simpa using h)
          have dat : (((at2 : Nat) : Int) != (n : Int)) = false := by simp; omega
          clear hat
          go_region_held3 (fun w' => (∀ o, w'.cell? ⟨p3, o, none⟩ = #[.slice ax n cx, .int .i64 (at2 : Nat), .bool false][o]?) ∧ (∀ o, w'.cell? ⟨g9, o, none⟩ = #[.int .i64 ((a1.1 : Nat) : Int), .int .i64 ((a2.1 : Nat) : Int), .int .i64 ((a3.1 : Nat) : Int), .int .i64 ((a4.1 : Nat) : Int), .string ⟨a5.1.toArray⟩, .int .i64 ((a6.1 : Nat) : Int), .int .i64 ((a7.1 : Nat) : Int), .int .i64 ((a8.1 : Nat) : Int), .int .i64 ((a9.1 : Nat) : Int), .int .i64 ((a10.1 : Nat) : Int), .slice aw (toInts a12.1).length cw, .slice an (toStrs a14.1).length cn, .slice ad a15.1.length cd][o]?)) (first | (exact And.intro H10.blkCell H10.swap.blkCell) | ((repeat' (first | assumption | (with_reducible refine And.intro ?_ ?_) | (with_reducible refine keep_drew ?_) | (with_reducible refine keep_drewN ?_) | (with_reducible refine keep_alloc ?_ (by first | assumption | (simp only [World.size_alloc, World.size_drew, World.size_setCell]; omega))) | (with_reducible refine keep_set ?_ (by first | assumption | omega)))))) ((go_at_call 49; refine (rright25_spec (⟨((a1.1 : Nat) : Int), ((a2.1 : Nat) : Int), ((a3.1 : Nat) : Int), ((a4.1 : Nat) : Int), ⟨a5.1.toArray⟩, ((a6.1 : Nat) : Int), ((a7.1 : Nat) : Int), ((a8.1 : Nat) : Int), ((a9.1 : Nat) : Int), ((a10.1 : Nat) : Int), .slice aw (toInts a12.1).length cw, .slice an (toStrs a14.1).length cn, .slice ad a15.1.length cd, toInts a12.1, toStrs a14.1, a15.1⟩ : Ms) H9.drew HMR.out HMZ.out).mono ?_; rintro e w10 ⟨rfl, H10⟩))
          all_goals
            go_wp2_with fail
            go_meet
            case rel =>
              exact ⟨by rw [HD.out, HOK.out], H10⟩
        · have dat : (((at2 : Nat) : Int) != (n : Int)) = true := by simp; omega
          go_quiet (fail)
          go_wp2_with fail
          go_meet
          case rel =>
            exact ⟨by have h := HRO2.out; rw [decide_eq_false hat] at h; simp at h; rw [h]; rfl, H9.drewN _⟩
    · have d77 : (((a0.1 : Nat) : Int) != 77) = true := by simp; omega
      go_quiet (fail)
      go_wp2_with fail
      go_meet
      case rel =>
        exact ⟨by have h := HRO2.out; rw [decide_eq_false h77] at h; simp at h; rw [h]; rfl, H9.drewN _⟩
  obtain ⟨rfl, H9⟩ := hcut
  obtain ⟨l9, n9, c9, z9⟩ := Holds.facts (H9.swap)
  obtain ⟨l8, n8, c8, z8⟩ := Holds.facts (H9.pick3)
  obtain ⟨s1, s2⟩ := Holds.apart H9.drop
  cases rb with
  | false =>
    go_wp2_with fail
    have H13 := H9.pick3.blkFull [.int .i64 0, .int .i64 0, .int .i64 0, .int .i64 0, .string ⟨#[]⟩, .int .i64 0, .int .i64 0, .int .i64 0, .int .i64 0, .int .i64 0, .slice none 0 0, .slice none 0 0, .slice none 0 0] rfl
    clear H9 l8 n8 c8 z8 l9 n9 c9 z9
    generalize hw9 : World.setCell .. = w13
    replace H13 := Holds.at hw9 H13
    clear hw9
    refine bodyPost_ret (results_cell2 rfl _ _ z tMsg _ (0, 0) _ rfl H13.blkAt Try.underlying63 rfl (by kernel_rfl)) rfl ?_
    exact ⟨R10, leA, msZero, by rw [HC.out, ← HRB.out]; rfl, by rw [HM.out, ← HRB.out]; rfl, ⟨Rd.nil, Rd.nil, RdB.nil⟩, ms_zero_Sz, H13.drop.drop.drop⟩
  | true =>
    go_wp2_with fail
    have H13 := H9.pick3.blkFull [.int .i64 ((a1.1 : Nat) : Int), .int .i64 ((a2.1 : Nat) : Int), .int .i64 ((a3.1 : Nat) : Int), .int .i64 ((a4.1 : Nat) : Int), .string ⟨a5.1.toArray⟩, .int .i64 ((a6.1 : Nat) : Int), .int .i64 ((a7.1 : Nat) : Int), .int .i64 ((a8.1 : Nat) : Int), .int .i64 ((a9.1 : Nat) : Int), .int .i64 ((a10.1 : Nat) : Int), .slice aw (toInts a12.1).length cw, .slice an (toStrs a14.1).length cn, .slice ad a15.1.length cd] rfl
    clear H9 l8 n8 c8 z8 l9 n9 c9 z9
    generalize hw9 : World.setCell .. = w13
    replace H13 := Holds.at hw9 H13
    clear hw9
    refine bodyPost_ret (results_cell2 rfl _ _ z tMsg _ (0, 0) _ rfl H13.blkAt Try.underlying63 rfl (by kernel_rfl)) rfl ?_
    exact ⟨R10, leA, (⟨((a1.1 : Nat) : Int), ((a2.1 : Nat) : Int), ((a3.1 : Nat) : Int), ((a4.1 : Nat) : Int), ⟨a5.1.toArray⟩, ((a6.1 : Nat) : Int), ((a7.1 : Nat) : Int), ((a8.1 : Nat) : Int), ((a9.1 : Nat) : Int), ((a10.1 : Nat) : Int), .slice aw (toInts a12.1).length cw, .slice an (toStrs a14.1).length cn, .slice ad a15.1.length cd, toInts a12.1, toStrs a14.1, a15.1⟩ : Ms), by rw [HC.out, ← HRB.out]; rfl, by rw [HM.out, ← HRB.out]; exact HMC.out, HMR.out, HMZ.out, H13.drop.drop.drop⟩
end Sh
