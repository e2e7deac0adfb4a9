/- sherdlaw15: the walks. -/
import Derived.Test.YtdkkadpcgemefaaSectorRef
import Derived.Test.YtdkkadpcgemefaaDisk
set_option linter.unusedVariables false
set_option linter.unusedSimpArgs false
namespace Sh
open Go Go.RowKit Go.Proofs
attribute [local go_sem ↓] Go.wp_at_zero Go.wp_at_succ
set_option maxHeartbeats 1000000
set_option maxRecDepth 100000

theorem good_zero : goodB (List.replicate 64 0) = false := by decide +kernel
theorem seal_clear {p : List UInt8} (h : p.length ≤ 60) : clearB (sealS p) = false := by
  rw [clearB, decide_eq_false_iff_not]
  intro h2
  have h3 : goodB (sealS p) = true := by rw [sealS, if_pos h]; exact goodB_seal _
  rw [h2, good_zero] at h3
  cases h3
theorem open_seal {p : List UInt8} (h : p.length ≤ 60) : openOk (sealS p) = true ∧ openP (sealS p) = padTo60 p := by
  have h1 : openOk (sealS p) = true := by
    rw [openOk, sealS_len h, sealS, if_pos h, goodB_seal]; rfl
  refine ⟨h1, ?_⟩
  rw [openP, if_pos h1, sealS, if_pos h, sealB, List.take_append_of_le_length (by rw [padTo60_len h]; decide), List.take_of_length_le (by rw [padTo60_len h]; decide)]
theorem pad_take {p : List UInt8} (h : p.length ≤ 60) : (padTo60 p).take p.length = p := by
  rw [padTo60, List.take_of_length_le h, List.take_append_of_le_length (Nat.le_refl _), List.take_length]
theorem alive15 {w : World} {R : Snap} {L : Asrt} (H : Holds w R L) : Calls Try.prog 79 #[] w fun e w' => e = .returned (.bool true) ∧ Holds w' R L := by
  go_enter Try.func79, Try.ntmps79
  go_wp2_with fail
  refine (new_crc H).mono ?_
  rintro e w1 ⟨p, rfl, H1⟩
  obtain ⟨R1, le1, H2, hT⟩ := H1.freezeBlk
  clear H1
  go_wp2_with fail
  refine (sseal_spec H2 hT RdB.nil).mono ?_
  rintro e w2 ⟨o2, rfl, H3⟩
  obtain ⟨a2, c2, rfl⟩ := H3.rowRd.form
  rw [sealS_len (by decide)] at H3 ⊢
  go_wp2_with fail
  refine (sclear_spec H3 (by rw [← sealS_len (p := []) (by decide)] at H3; exact H3.rowRd)).mono ?_
  rintro e w3 ⟨rfl, H4⟩
  rw [seal_clear (by decide)]
  go_wp2_with fail
  refine (zero_spec H4).mono ?_
  rintro e w4 ⟨v4, rfl, H5⟩
  go_wp2_with fail
  refine (sclear_spec H5 H5.rowRd).mono ?_
  rintro e w5 ⟨rfl, H6⟩
  go_wp2_with fail
  go_ret
  exact ⟨ret_bool (by decide), H6.drop.drop.weaken le1⟩
theorem sectorSeals_walk (W : World) {va vb : Value} {p b : List UInt8} (ha : RdB W.cell? va p) (hb : RdB W.cell? vb b) :
    Calls Try.prog 11 #[va, vb] W fun e w' => e = .returned (.bool true) ∧ Below W.heap.size W w' := by
  have ha0 := ha
  have hb0 := hb
  obtain ⟨aa, ca, rfl⟩ := ha.form
  obtain ⟨ab, cb, rfl⟩ := hb.form
  have fin : Calls Try.prog 79 #[] W fun e w' => e = .returned (.bool true) ∧ Below W.heap.size W w' := (alive15 (Holds.start W)).mono fun e w' h => ⟨h.1, h.2.toBelow (Snap.le.refl _)⟩
  by_cases h1 : p.length ≤ 100
  · have t1 : (decide ((100 : Int) < p.length)) = false := by simp; omega
    by_cases h2 : b.length ≤ 100
    · have t2 : (decide ((100 : Int) < b.length)) = false := by simp; omega
      have hol := openP_len b
      have hsl := sealS_len_le p
      by_cases h60 : p.length ≤ 60
      · have t3 : (decide ((60 : Int) < p.length)) = false := by simp; omega
        obtain ⟨so1, so2⟩ := open_seal h60
        have hsl64 := sealS_len h60
        have hpl := padTo60_len h60
        go_enter Try.func11, Try.ntmps11
        go_wp2_with fail
        refine (new_crc (Holds.start W)).mono ?_
        rintro e w1 ⟨pt, rfl, H1⟩
        obtain ⟨R1, le1, H2, hT⟩ := H1.freezeBlk
        clear H1
        go_wp2_with fail
        refine (sseal_spec H2 hT (Rd.le (R := Snap.of W) ha0 le1)).mono ?_
        rintro e w2 ⟨os, rfl, H3⟩
        obtain ⟨R2, le2, H4, hs⟩ := H3.freezeRow
        have hT2 := le2.blk _ _ hT
        have ha2 := Rd.le (R := Snap.of W) ha0 (le1.trans le2)
        have hb2 := Rd.le (R := Snap.of W) hb0 (le1.trans le2)
        clear H2 H3
        go_wp2_with fail
        refine (sopen_spec H4 hT2 hb2).mono ?_
        rintro e w3 ⟨ox, rfl, H5⟩
        clear H4
        go_wp2_with fail
        refine (rsopen_spec H5 hb2).mono ?_
        rintro e w4 ⟨oy, rfl, H6⟩
        clear H5
        go_wp2_with fail
        refine (same_spec H6.swap.rowRd H6.rowRd (by omega) (by omega)).mono ?_
        rintro e w5 ⟨rfl, q5, rfl⟩
        rw [show decide (openP b = openP b) = true from by simp]
        have H7 := H6.drop.drop.drewN q5
        clear H6
        generalize (World.drewN ..) = w5 at H7 ⊢
        generalize openOk b = okb
        go_wp2_with fail
        refine (sclear_spec H7 (hb2.world H7)).mono ?_
        rintro e w6 ⟨rfl, H8⟩
        clear H7
        go_wp2_with fail
        refine (rsclear_spec (hb2.world H8)).mono ?_
        rintro e w7 ⟨rfl, rfl⟩
        generalize clearB b = cb2
        go_wp2_with fail
        refine (sopen_spec H8 hT2 hs).mono ?_
        rintro e w8 ⟨op, rfl, H9⟩
        rw [so1]
        rw [so2] at H9
        clear H8
        go_wp2_with fail
        refine (rsseal_spec H9 ha2 h60).mono ?_
        rintro e w9 ⟨or, rfl, H10⟩
        clear H9
        go_wp2_with fail
        refine (same_spec (hs.world H10) H10.rowRd (by omega) (by omega)).mono ?_
        rintro e w10 ⟨rfl, q10, rfl⟩
        rw [show decide (sealS p = sealS p) = true from by simp]
        have H11 := H10.drop.drewN q10
        clear H10
        generalize (World.drewN ..) = w10 at H11 ⊢
        obtain ⟨sa, sc, rfl⟩ := hs.form
        obtain ⟨ao, co, rfl⟩ := H11.rowRd.form
        have hB := hs.bounds
        have i1 : (60 : Int) ≤ sc := by omega
        have hs60 := RdB.pre hs 60 (by omega)
        rw [show (sealS p).take 60 = padTo60 p from by rw [← so2, openP, if_pos so1]] at hs60
        have hBo := H11.rowRd.bounds
        have i2 : (p.length : Int) ≤ co := by omega
        obtain ⟨R12, le12, H12, hpo⟩ := H11.freezeRow
        clear H11
        have hop := RdB.pre hpo p.length (by omega)
        rw [pad_take h60] at hop
        have hpo := RdB.at_len hpo hpl
        rw [hpl]
        have hs60 := Rd.le hs60 le12
        have ha3 := Rd.le ha2 le12
        have hs2 := RdB.at_len (Rd.le hs le12) hsl64
        rw [hsl64]
        have hclr := seal_clear h60
        clear hB hBo so1 so2
        go_wp2_with fail
        refine (same_spec (hpo.world H12) (hs60.world H12) (by omega) (by omega)).mono ?_
        rintro e w12 ⟨rfl, q12, rfl⟩
        rw [show decide (padTo60 p = padTo60 p) = true from by simp]
        have H13 := H12.drewN q12
        clear H12
        generalize (World.drewN ..) = w12 at H13 ⊢
        go_wp2_with fail
        refine (same_spec (hop.world H13) (ha3.world H13) (by omega) (by omega)).mono ?_
        rintro e w13 ⟨rfl, q13, rfl⟩
        rw [show decide (p = p) = true from by simp]
        have H14 := H13.drewN q13
        clear H13
        generalize (World.drewN ..) = w13 at H14 ⊢
        go_wp2_with fail
        refine (sclear_spec H14 (hs2.world H14)).mono ?_
        rintro e w14 ⟨rfl, H15⟩
        rw [hclr]
        go_wp2_with fail
        refine (alive15 H15).mono ?_
        rintro e w15 ⟨rfl, H16⟩
        go_wp2_with fail
        go_ret
        exact ⟨rfl, H16.toBelow (le1.trans (le2.trans le12))⟩
      · have t3 : (decide ((60 : Int) < p.length)) = true := by simp; omega
        have e1 : sealS p = [] := by simp [sealS, h60]
        go_enter Try.func11, Try.ntmps11
        go_wp2_with fail
        refine (new_crc (Holds.start W)).mono ?_
        rintro e w1 ⟨pt, rfl, H1⟩
        obtain ⟨R1, le1, H2, hT⟩ := H1.freezeBlk
        clear H1
        go_wp2_with fail
        refine (sseal_spec H2 hT (Rd.le (R := Snap.of W) ha0 le1)).mono ?_
        rintro e w2 ⟨os, rfl, H3⟩
        rw [e1] at H3
        obtain ⟨R2, le2, H4, hs⟩ := H3.freezeRow
        have hT2 := le2.blk _ _ hT
        have hb2 := Rd.le (R := Snap.of W) hb0 (le1.trans le2)
        clear H2 H3
        obtain ⟨sa, sc, rfl⟩ := hs.form
        go_wp2_with fail
        refine (sopen_spec H4 hT2 hb2).mono ?_
        rintro e w3 ⟨ox, rfl, H5⟩
        clear H4
        go_wp2_with fail
        refine (rsopen_spec H5 hb2).mono ?_
        rintro e w4 ⟨oy, rfl, H6⟩
        clear H5
        go_wp2_with fail
        refine (same_spec H6.swap.rowRd H6.rowRd (by omega) (by omega)).mono ?_
        rintro e w5 ⟨rfl, q5, rfl⟩
        rw [show decide (openP b = openP b) = true from by simp]
        have H7 := H6.drop.drop.drewN q5
        clear H6
        generalize (World.drewN ..) = w5 at H7 ⊢
        generalize openOk b = okb
        go_wp2_with fail
        refine (sclear_spec H7 (hb2.world H7)).mono ?_
        rintro e w6 ⟨rfl, H8⟩
        clear H7
        go_wp2_with fail
        refine (rsclear_spec (hb2.world H8)).mono ?_
        rintro e w7 ⟨rfl, rfl⟩
        generalize clearB b = cb2
        go_wp2_with fail
        refine (alive15 H8).mono ?_
        rintro e w15 ⟨rfl, H16⟩
        go_wp2_with fail
        go_ret
        exact ⟨rfl, H16.toBelow (le1.trans le2)⟩
    · have t2 : (decide ((100 : Int) < b.length)) = true := by simp; omega
      go_enter Try.func11, Try.ntmps11
      go_wp2_with fail
      refine (fin).mono ?_
      rintro e w2 ⟨rfl, H1⟩
      go_wp2_with fail
      go_ret
      exact ⟨rfl, H1⟩
  · have t1 : (decide ((100 : Int) < p.length)) = true := by simp; omega
    go_enter Try.func11, Try.ntmps11
    go_wp2_with fail
    refine (fin).mono ?_
    rintro e w2 ⟨rfl, H1⟩
    go_wp2_with fail
    go_ret
    exact ⟨rfl, H1⟩
theorem sectorBursts_walk (W : World) {vb : Value} {b : List UInt8} {first : Int} {m : Int} (hb : RdB W.cell? vb b) (hf : IntKind.i64.min ≤ first ∧ first ≤ IntKind.i64.max) (hm : IntKind.u32.min ≤ m ∧ m ≤ IntKind.u32.max) :
    Calls Try.prog 12 #[vb, .int .i64 first, .int .u32 m] W fun e w' => e = .returned (.bool true) ∧ Below W.heap.size W w' := by
  have hb0 := hb
  obtain ⟨ab, cb, rfl⟩ := hb.form
  by_cases hb3 : b.length ≤ 60
  · have t3 : (decide ((60 : Int) < b.length)) = false := by simp; omega
    obtain ⟨mask, rfl⟩ : ∃ mask : Reg, m = tn mask := ⟨BitVec.ofNat 32 m.toNat, by
      have h1 : (0 : Int) ≤ m := hm.1
      have h2 : m ≤ 4294967295 := hm.2
      unfold tn; rw [BitVec.toNat_ofNat, Nat.mod_eq_of_lt (by omega)]; omega⟩
    have hsl := sealS_len hb3
    go_enter Try.func12, Try.ntmps12
    go_wp2_with fail
    refine (new_crc (Holds.start W)).mono ?_
    rintro e w1 ⟨p, rfl, H1⟩
    obtain ⟨R1, le1, H2, hT⟩ := H1.freezeBlk
    clear H1
    go_wp2_with fail
    refine (sseal_spec H2 hT (Rd.le (R := Snap.of W) hb0 le1)).mono ?_
    rintro e w2 ⟨o, rfl, H3⟩
    obtain ⟨R2, le2, H4, hs⟩ := H3.freezeRow
    have hT2 := le2.blk _ _ hT
    clear H2 H3
    go_wp2_with fail
    refine (turn_spec H4 hs (by omega) hf).mono ?_
    rintro e w3 ⟨ox, x, rfl, hx, H5⟩
    obtain ⟨R3, le3, H6, hxr⟩ := H5.freezeRow
    have hT3 := le3.blk _ _ hT2
    have hs3 := Rd.le hs le3
    have hxl : x.length = 64 := hx.1.trans hsl
    clear H4 H5
    go_wp2_with fail
    refine (sopen_spec H6 hT3 hxr).mono ?_
    rintro e w4 ⟨o4, rfl, H7⟩
    have hkey : openOk x = decide (x = sealS b) := by
      obtain ⟨h1, h2⟩ := hx
      rw [openOk, hxl, show decide (64 = 64) = true from rfl, Bool.true_and]
      rw [sealS, if_pos hb3] at h1 h2 ⊢
      by_cases h0 : 0 ≤ first
      · exact goodB_burst (k := first.toNat) h1 fun i hi => h2 i (by omega)
      · exact goodB_burst (k := 0) h1 fun i hi => h2 i (by omega)
    rw [hkey]
    clear H6
    obtain ⟨sa, sc, rfl⟩ := hs3.form
    have hs3' := RdB.at_len hs3 hsl
    rw [hsl]
    go_wp2_with fail
    refine (same_spec (hxr.world H7) (hs3'.world H7) (by omega) (by omega)).mono ?_
    rintro e w6 ⟨rfl, q, rfl⟩
    have H9 := H7.drop.drewN q
    clear H7
    generalize (World.drewN ..) = w7 at H9 ⊢
    generalize decide (x = sealS b) = d
    go_wp2_with fail
    refine (alive15 H9).mono ?_
    rintro e w8 ⟨rfl, H10⟩
    go_wp2_with fail
    go_ret
    exact ⟨rfl, H10.toBelow (le1.trans (le2.trans le3))⟩
  · have t3 : (decide ((60 : Int) < b.length)) = true := by simp; omega
    go_enter Try.func12, Try.ntmps12
    go_wp2_with fail
    refine (alive15 (Holds.start W)).mono ?_
    rintro e w8 ⟨rfl, H10⟩
    go_wp2_with fail
    go_ret
    exact ⟨rfl, H10.toBelow (Snap.le.refl _)⟩
end Sh
