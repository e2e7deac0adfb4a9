/- DiskOwn: the walk. -/
import Derived.Test.YtdkkadpcgemefaaDiskRot
import Derived.Test.YtdkkadpcgemefaaDiskCopy
import Derived.Test.YtdkkadpcgemefaaDiskWipe
import Derived.Test.YtdkkadpcgemefaaDiskLaw
set_option linter.unusedVariables false
set_option linter.unusedSimpArgs false
namespace Sh
open Go Go.RowKit Go.Proofs
attribute [local go_sem ↓] Go.wp_at_zero Go.wp_at_succ
set_option maxHeartbeats 1000000
set_option maxRecDepth 100000

theorem rotS_len {S : List (List UInt8)} {i bit : Int} {mask : Reg} : (rotS S i bit mask).length = S.length := by unfold rotS; split <;> simp
theorem wS_len {S : List (List UInt8)} {left : Int} {dead : Bool} {i : Int} {b : List UInt8} : (wS S left dead i b).length = S.length := by unfold wS; split <;> simp
theorem wOk_len {n : Nat} {left : Int} {dead : Bool} {i : Int} {b : List UInt8} (h : wOk n left dead i b = true) : b.length ≤ 64 := by
  simp only [wOk, wFit, Bool.and_eq_true, decide_eq_true_eq] at h
  omega
theorem wS_all {S : List (List UInt8)} {left : Int} {dead : Bool} {i : Int} {b : List UInt8} (h : ∀ s ∈ S, s.length = 64) : ∀ s ∈ wS S left dead i b, s.length = 64 := by
  unfold wS; split
  · rename_i hw; exact all_set h (pad64_len (wOk_len hw))
  · exact h
theorem rotS_all {S : List (List UInt8)} {i bit : Int} {mask : Reg} (h : ∀ s ∈ S, s.length = 64) : ∀ s ∈ rotS S i bit mask, s.length = 64 := by
  unfold rotS; split
  · rename_i hr
    simp only [rotOk, decide_eq_true_eq] at hr
    refine all_set h ?_
    rw [turnL_len]
    obtain ⟨k, rfl⟩ : ∃ k : Nat, i = k := ⟨i.toNat, by omega⟩
    rw [secAt_nat, List.getD, List.getElem?_eq_getElem (by omega)]
    exact h _ (List.getElem_mem _)
  · exact h
theorem wLeft_ever {n : Nat} {i : Int} {b : List UInt8} : wLeft n (-1) false i b = -1 ∧ wDead n (-1) false i b = false := by
  unfold wLeft wDead; constructor
  · split
    · simp [spendLeft]
    · rfl
  · split
    · simp [spendOk]
    · rfl
theorem own_start {b : List UInt8} (h64 : b.length = 64) : wOk (zeros 4).length (-1) false 1 b = true ∧ ∃ S, wS (zeros 4) (-1) false 1 b = S ∧ S.length = 4 ∧ (∀ s ∈ S, s.length = 64) ∧ secAt S 1 = b := by
  have e1 : wOk (zeros 4).length (-1) false 1 b = true := by simp [wOk, wFit, spendOk, h64]
  have e2 : pad64 b = b := by rw [pad64, List.take_of_length_le (by omega), List.drop_of_length_le (by simp; omega), List.append_nil]
  refine ⟨e1, (zeros 4).set 1 b, by rw [wS_yes e1, e2]; rfl, by simp, all_set all_zeros h64, ?_⟩
  rw [show (1 : Int) = ((1 : Nat) : Int) from rfl, secAt_nat, List.getD, List.getElem?_set_self (by simp)]
  rfl
theorem diskOwn_walk (W : World) {vb vl : Value} {b : List UInt8} {l : List Act16} (hb : RdB W.cell? vb b) (hl : Rd W.cell? 5 vl l.length (l.flatMap Act16.cells)) (hg : ∀ a ∈ l, a.Good W.cell?) :
    Calls Try.prog 17 #[vb, vl] W fun e w' => e = .returned (.bool true) ∧ Below W.heap.size W w' := by
  have hl0 := hl
  have hb0 := hb
  obtain ⟨al, cl, rfl⟩ := hl.form
  obtain ⟨ab, cb, rfl⟩ := hb.form
  have hbS : RdB (Snap.of W).cell? (.slice ab b.length cb) b := hb0
  have hlS : Rd (Snap.of W).cell? 5 (.slice al l.length cl) l.length (l.flatMap Act16.cells) := hl0
  by_cases h64 : b.length = 64
  · have t1 : ((b.length : Int) != 64) = false := by simp [h64]
    have HH := Hid.mk' h64
    clear h64
    go_enter Try.func17, Try.ntmps17
    go_wp2_with fail
    refine (light16 (R := Snap.of W) (Holds.start W) hl0 hg).mono ?_
    rintro e w1 ⟨rfl, H0⟩
    by_cases hlt : isLight16 l = true
    · rw [hlt]
      simp only [isLight16, decide_eq_true_eq] at hlt
      obtain ⟨hb100, hl60⟩ := hlt
      go_wp2_with fail
      refine (disknew_spec (n := 4) H0).mono ?_
      rintro e w2 ⟨pd, rfl, H1⟩
      rw [show secN 4 = 4 from by decide] at H1
      clear H0
      go_wp2_with fail
      refine (dwrite_spec (i := 1) H1 hbS (by decide)).mono ?_
      rintro e w3 ⟨rfl, H2⟩
      obtain ⟨e1, S, hS, hS4, hS64, hsec⟩ := own_start HH.out
      rw [e1]
      rw [hS, wLeft_ever.1, wLeft_ever.2] at H2
      have HS64 := Hid.mk' hS64
      have HS6 : Hid (∀ s ∈ S, s.length ≤ 1000000) := Hid.mk' (fun s hs => by rw [hS64 s hs]; decide)
      have hS9 : S.length ≤ 1000 := by omega
      have hfl := flatten_len hS64
      have hf9 : S.flatten.length ≤ 1000000 := by omega
      have HS4 := Hid.mk' hS4
      have HSC := Hid.mk' hsec
      clear H1 e1 hS hS4 hS64 hsec hfl
      go_wp2_with fail
      refine (dread_spec (i := 1) H2 HS6.out).mono ?_
      rintro e w4 ⟨v4, rfl, H3⟩
      rw [HSC.out] at H3
      obtain ⟨gx, cx, hv4, hcx, hgx, hcell, hfro⟩ := H3.rowAt (by rw [HH.out]; decide)
      obtain rfl := hv4
      rw [HH.out]
      have c5 := hcell 5 _ (u8s_get b 5 (by rw [HH.out]; decide))
      have f5 := hfro 5
      have b5 := u8_lt (b[5]'(by rw [HH.out]; decide))
      have H3s := fun u => (H3.rowSet (t := tU8) 5 u (by rw [HH.out]; decide)).drop
      have H3S := Hid.mk' H3s
      generalize b[5]'(by rw [HH.out]; decide) = x5 at c5 b5
      clear H2 hcell hfro H3s H3 hcx
      have t5 : ((5 : Int) < 64) := by decide
      go_wp2_with fail
      generalize hw5 : World.setCell _ _ _ = w5
      have H4 : Holds w5 (Snap.of W) (star (diskS pd S (-1) false) emp) := by rw [← hw5]; exact H3S.out _
      clear H3S c5 f5 b5 hw5
      refine (dimage_spec H4 HS64.out hS9).mono ?_
      rintro e w6 ⟨v6, rfl, H6⟩
      clear H4
      go_wp2_with fail
      refine (dcopy_spec H6.swap HS6.out hS9).mono ?_
      rintro e w7 ⟨pc, rfl, H7⟩
      clear H6
      go_wp2_with fail
      go_loopw [42] (fun i wx => ∃ (j : Nat) (S2 : List (List UInt8)), i = .int .i64 j ∧ j ≤ l.length ∧ S2.length = 4 ∧ (∀ s ∈ S2, s.length = 64) ∧ Holds wx (Snap.of W) (star (diskS pc S2 (-1) false) (star (diskS pd S (-1) false) (star (rowB v6 S.flatten) emp)))) (fun i _ => l.length - (intOf i).toNat)
      case atStart => exact ⟨0, S, rfl, Nat.zero_le _, HS4.out, HS64.out, H7⟩
      case round =>
        clear H7
        obtain ⟨j, S2, rfl, hj, hS24, hS264, H8⟩ := hrel
        by_cases hlt : j < l.length
        · obtain ⟨bl, ol, rfl, hx⟩ := rd_elt (f := Act16.cells) (fun _ => rfl) (Rd.world (R := Snap.of W) hl0 H8) (by decide) hlt
          have hgj := hg l[j] (List.getElem_mem hlt)
          generalize l[j] = x at hx hgj
          obtain ⟨xk, xa, xn, xm, xv, xb⟩ := x
          obtain ⟨hxb, hxn, hxm⟩ := hgj
          obtain ⟨ax, cx2, hab⟩ := hxb.form
          simp only at hab hxn hxm
          subst hab
          obtain ⟨mask, hmask⟩ : ∃ mask : Reg, xm = tn mask := ⟨BitVec.ofNat 32 xm.toNat, by
            unfold tn; rw [BitVec.toNat_ofNat, Nat.mod_eq_of_lt (by omega)]; omega⟩
          subst hmask
          have c0 : wr.cell? ⟨bl, ol + j * 5, none⟩ = some (.int .i64 xk) := hx 0 _ (by omega) rfl
          have c1 : wr.cell? ⟨bl, ol + j * 5 + 1, none⟩ = some (.int .i64 xa) := hx 1 _ (by omega) rfl
          have c2 : wr.cell? ⟨bl, ol + j * 5 + 2, none⟩ = some (.int .i64 xn) := hx 2 _ (by omega) rfl
          have c3 : wr.cell? ⟨bl, ol + j * 5 + 3, none⟩ = some (.int .u32 (tn mask)) := hx 3 _ (by omega) rfl
          have c4 : wr.cell? ⟨bl, ol + j * 5 + 4, none⟩ = some (.slice ax xb.length cx2) := hx 4 _ (by omega) rfl
          clear hx
          have HS24 := Hid.mk' hS24
          have HS264 := Hid.mk' hS264
          clear hS24 hS264
          go_upto_region 15 with fail
          obtain ⟨R1, le1, H9, hba⟩ := H8.allocR (.cells #[.int .i64 xk, .int .i64 xa, .int .i64 xn, .int .u32 (tn mask), .slice ax xb.length cx2] 79 (0, 0))
          clear H8 c0 c1 c2 c3 c4
          generalize (World.alloc ..) = w8 at H9 ⊢
          generalize wr.heap.size = ba at H9 hba ⊢
          have hxR : RdB R1.cell? (.slice ax xb.length cx2) xb := Rd.le (R := Snap.of W) hxb le1
          obtain ⟨l9, n9, c9⟩ := Holds.frzFacts (H9) hba
          go_wp2_with fail
          refine (dwrite_spec H9 hxR (by decide)).mono ?_
          rintro e w10 ⟨rfl, H10⟩
          rw [wLeft_ever.1, wLeft_ever.2] at H10
          clear H9 l9 n9 c9
          obtain ⟨l10, n10, c10⟩ := Holds.frzFacts (H10) hba
          go_wp2_with fail
          refine (drot_spec H10 (wS_all HS264.out) hxn.2).mono ?_
          rintro e w11 ⟨rfl, H11⟩
          go_wp2_with fail
          go_roundw
          case rel => exact ⟨j + 1, _, by go_num, hlt, by rw [rotS_len, wS_len]; exact HS24.out, rotS_all (wS_all HS264.out), H11.weaken le1⟩
          case measure => simp [intOf]; omega
        · clear hS264
          go_wp2_with fail
          refine (dwipe_spec H8 (by omega)).mono ?_
          rintro e w9 ⟨rfl, H9⟩
          clear H8
          go_wp2_with fail
          refine (dpower_nil).mono ?_
          rintro e w10 ⟨rfl, rfl⟩
          go_wp2_with fail
          refine (dwipe_nil).mono ?_
          rintro e w10 ⟨rfl, rfl⟩
          go_wp2_with fail
          refine (dimage_spec H9.swap HS64.out hS9).mono ?_
          rintro e w10 ⟨v10, rfl, H10⟩
          clear H9
          go_wp2_with fail
          refine (same_spec H10.rowRd H10.pick4.rowRd hf9 hf9).mono ?_
          rintro e w11 ⟨rfl, q11, rfl⟩
          rw [show decide (S.flatten = S.flatten) = true from by simp]
          have H11 := H10.drop.drewN q11
          clear H10
          generalize (World.drewN ..) = w11 at H11 ⊢
          go_wp2_with fail
          refine (dread_spec (i := 1) H11 HS6.out).mono ?_
          rintro e w12 ⟨v12, rfl, H12⟩
          rw [HSC.out] at H12
          clear H11
          have hb12 := RdB.at_len (Rd.world (R := Snap.of W) hb0 H12) HH.out
          go_wp2_with fail
          refine (same_spec H12.rowRd hb12 (by rw [HH.out]; decide) (by rw [HH.out]; decide)).mono ?_
          rintro e w13 ⟨rfl, q13, rfl⟩
          rw [show decide (b = b) = true from by simp]
          have H13 := H12.drop.drewN q13
          clear H12 hb12
          generalize (World.drewN ..) = w13 at H13 ⊢
          go_wp2_with fail
          refine (ddead_nil).mono ?_
          rintro e w14 ⟨rfl, rfl⟩
          go_wp2_with fail
          refine (dsize_nil).mono ?_
          rintro e w14 ⟨rfl, rfl⟩
          go_wp2_with fail
          refine (dwrite_nil).mono ?_
          rintro e w14 ⟨rfl, rfl⟩
          go_wp2_with fail
          refine (dread_nil).mono ?_
          rintro e w14 ⟨rfl, rfl⟩
          go_wp2_with fail
          refine (dimage_nil).mono ?_
          rintro e w14 ⟨rfl, rfl⟩
          go_wp2_with fail
          refine (drot_nil).mono ?_
          rintro e w14 ⟨rfl, rfl⟩
          go_wp2_with fail
          refine (dcopy_nil).mono ?_
          rintro e w14 ⟨rfl, rfl⟩
          go_wp2_with fail
          refine (alive16 H13).mono ?_
          rintro e w14 ⟨rfl, H14⟩
          go_wp2_with fail
          go_ret
          exact ⟨rfl, H14.toBelow (Snap.le.refl _)⟩
    · rw [Bool.not_eq_true] at hlt
      rw [hlt]
      go_wp2_with fail
      refine (alive16 H0).mono ?_
      rintro e w2 ⟨rfl, H1⟩
      go_wp2_with fail
      go_ret
      exact ⟨rfl, H1.toBelow (Snap.le.refl _)⟩
  · have t1 : ((b.length : Int) != 64) = true := by rw [bne_iff_ne]; omega
    go_enter Try.func17, Try.ntmps17
    go_wp2_with fail
    refine (alive16 (Holds.start W)).mono ?_
    rintro e w2 ⟨rfl, H1⟩
    go_wp2_with fail
    go_ret
    exact ⟨rfl, H1.toBelow (Snap.le.refl _)⟩
end Sh
