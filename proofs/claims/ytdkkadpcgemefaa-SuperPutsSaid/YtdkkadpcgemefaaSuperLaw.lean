/- sherdlaw17: the walks. -/
import Derived.Test.YtdkkadpcgemefaaSuperRef
set_option linter.unusedVariables false
set_option linter.unusedSimpArgs false
namespace Sh
open Go Go.RowKit Go.Proofs
attribute [local go_sem ↓] Go.wp_at_zero Go.wp_at_succ
set_option maxHeartbeats 1000000
set_option maxRecDepth 100000

theorem supEq_refl (f d s : Int) : supEq f d s f d s = true := by simp [supEq]
theorem clear_zeros : clearB (List.replicate 64 0) = true := by simp [clearB]
theorem sup_round {f d s : Int} (h : supRight f d s = true) : supGot (supPut f d s) = (true, f, d, s) := by
  unfold supPut
  rw [if_pos h]
  cases hz : supZero f d s with
  | true =>
    rw [if_pos rfl, supGot, if_pos clear_zeros]
    simp [supEq] at hz
    obtain ⟨rfl, rfl, rfl⟩ := hz
    rfl
  | false =>
    rw [if_neg (by decide)]
    have hl : (supP f d s).length ≤ 60 := by rw [supP_len]; decide
    obtain ⟨o1, o2⟩ := open_seal hl
    have e60 : (sealS (supP f d s)).take 60 = padTo60 (supP f d s) := by rw [← o2, openP, if_pos o1]
    have hr : 0 ≤ d ∧ d ≤ f ∧ f ≤ 4294967295 ∧ (s = 1 ∨ s = 2) := by simpa [supRight, hz] using h
    obtain ⟨r1, r2, r3, r4⟩ := hr
    have w1 : wid 1 = 1 := by decide
    have w4 : wid 4 = 4 := by decide
    have l1 := nb_length 1 s
    have lf := nb_length 4 f
    have ld := nb_length 4 d
    rw [w1] at l1
    rw [w4] at lf ld
    have hP : padTo60 (supP f d s) = [83] ++ nb 1 s ++ nb 4 f ++ nb 4 d ++ List.replicate 50 0 := by
      rw [padTo60, List.take_of_length_le hl, supP_len, List.drop_replicate]; rfl
    have hS : supS (padTo60 (supP f d s)) = s := by
      have e : ((padTo60 (supP f d s)).drop 1).take 1 = nb 1 s := by
        rw [hP]; simp [l1]
      rw [supS, e, valB_nb (by omega) (by rw [w1]; omega)]
    have hF : supF (padTo60 (supP f d s)) = f := by
      have e : ((padTo60 (supP f d s)).drop 2).take 4 = nb 4 f := by
        rw [hP]
        match nb 1 s, l1 with
        | [x], _ => simp [lf]
      rw [supF, e, valB_nb (by omega) (by rw [w4]; omega)]
    have hD : supD (padTo60 (supP f d s)) = d := by
      have e : ((padTo60 (supP f d s)).drop 6).take 4 = nb 4 d := by
        rw [hP]
        match nb 1 s, l1, nb 4 f, lf with
        | [x], _, [y1, y2, y3, y4], _ => simp [ld]
      rw [supD, e, valB_nb (by omega) (by rw [w4]; omega)]
    rw [supGot, seal_clear hl, if_neg (by decide), o1, Bool.true_and, supSays, e60, hF, hD, hS, hz]
    have hput : supPut f d s = sealS (supP f d s) := by rw [supPut, if_pos h, hz, if_neg (by decide)]
    rw [hput]
    simp [supAns]
theorem sup_back {b : List UInt8} (h : (supGot b).1 = true) : supPut (supGot b).2.1 (supGot b).2.2.1 (supGot b).2.2.2 = b := by
  unfold supGot at *
  by_cases hc : clearB b = true
  · rw [if_pos hc] at *
    have hb : b = List.replicate 64 0 := by simpa [clearB] using hc
    rw [hb]; decide
  · rw [if_neg hc] at *
    cases hs : openOk b && supSays b with
    | false => rw [hs] at h; simp [supAns] at h
    | true =>
      simp only [supAns, if_true]
      rw [Bool.and_eq_true] at hs
      have := hs.2
      simp only [supSays, Bool.and_eq_true, decide_eq_true_eq] at this
      exact this.2
theorem alive17 {w : World} {R : Snap} {L : Asrt} (H : Holds w R L) : Calls Try.prog 126 #[] w fun e w' => e = .returned (.bool true) ∧ Holds w' R L := by
  go_enter Try.func126, Try.ntmps126
  go_wp2_with fail
  refine (new_crc H).mono ?_
  rintro e w1 ⟨p, rfl, H1⟩
  obtain ⟨R1, le1, H2, hT⟩ := H1.freezeBlk
  clear H1
  go_wp2_with fail
  refine (supPut_spec (f := 7) (d := 3) (s := 1) H2 hT (by decide) (by decide) (by decide)).mono ?_
  rintro e w2 ⟨o2, rfl, H3⟩
  obtain ⟨R3, le3, H4, hr4⟩ := H3.freezeRow
  have hT4 := le3.blk _ _ hT
  clear H2 H3
  go_wp2_with fail
  refine (supGet_spec H4 hT4 hr4).mono ?_
  rintro e w3 ⟨rfl, H5⟩
  rw [sup_round (by decide)]
  clear H4
  go_wp2_with fail
  obtain ⟨R6, le6, H6, hb6⟩ := H5.allocR (.cells #[.int .i64 7, .int .i64 3, .int .i64 1] tSuper)
  generalize w3.heap.size = g at hb6 ⊢
  have hT6 := le6.blk _ _ hT4
  clear H5
  refine (supPut_spec (f := 0) (d := 0) (s := 0) H6 hT6 (by decide) (by decide) (by decide)).mono ?_
  rintro e w7 ⟨o7, rfl, H7⟩
  obtain ⟨a7, c7, rfl⟩ := H7.rowRd.form
  have hl : (supPut 0 0 0).length = 64 := by decide
  rw [hl]
  obtain ⟨l7, n7, c7⟩ := Holds.frzFacts (H7) hb6
  go_wp2_with fail
  refine (supRight_spec (f := 1) (d := 0) (s := 0) H7).mono ?_
  rintro e w8 ⟨rfl, H8⟩
  rw [show supRight 1 0 0 = false from by decide]
  go_wp2_with fail
  go_ret
  exact ⟨rfl, H8.drop.weaken (le1.trans (le3.trans le6))⟩
theorem superPuts_core (W : World) {f d s : Int} (hf : IntKind.i64.min ≤ f ∧ f ≤ IntKind.i64.max) (hd : IntKind.i64.min ≤ d ∧ d ≤ IntKind.i64.max) (hs : IntKind.i64.min ≤ s ∧ s ≤ IntKind.i64.max) :
    Calls Try.prog 21 #[supV f d s] W fun e w' => e = .returned (.bool true) ∧ Below W.heap.size W w' := by
  have hf9 : f ≤ 9223372036854775807 := hf.2
  have hd9 : d ≤ 9223372036854775807 := hd.2
  have hs9 : s ≤ 9223372036854775807 := hs.2
  clear hf hd hs
  have hR1 : ∀ {w R L}, Holds w R L → Calls Try.prog 125 #[supV f d s] w fun e w' => e = .returned (.bool (supRight f d s)) ∧ Holds w' R L := fun H => supRight_spec H
  have hR2 : ∀ {w R L}, Holds w R L → Calls Try.prog 124 #[supV f d s] w fun e w' => e = .returned (.bool (supRight f d s)) ∧ Holds w' R L := fun H => rsupRight_spec H
  have hlen := supPut_len f d s
  have hself := supEq_refl f d s
  cases hr : supRight f d s with
  | true =>
    rw [hr] at hR1 hR2
    go_enter Try.func21, Try.ntmps21
    go_wp2_with fail
    obtain ⟨R1, le1, H1, hb1⟩ := (Holds.start W).allocR (.cells #[.int .i64 f, .int .i64 d, .int .i64 s] tSuper)
    generalize W.heap.size = g at hb1 ⊢
    refine (new_crc H1).mono ?_
    rintro e w2 ⟨p, rfl, H2⟩
    obtain ⟨R2, le2, H3, hT⟩ := H2.freezeBlk
    have hb2 := le2.blk _ _ hb1
    clear H1 H2
    obtain ⟨l3, n3, c3⟩ := Holds.frzFacts (H3) hb2
    go_wp2_with fail
    refine (supPut_spec H3 hT hf9 hd9 hs9).mono ?_
    rintro e w4 ⟨o4, rfl, H4⟩
    obtain ⟨R5, le5, H5, hr5⟩ := H4.freezeRow
    have hT5 := le5.blk _ _ hT
    have hb5 := le5.blk _ _ hb2
    clear H3 H4 l3 n3 c3
    obtain ⟨l5, n5, c5⟩ := Holds.frzFacts (H5) hb5
    go_wp2_with fail
    refine (hR2 H5).mono ?_
    rintro e w6 ⟨rfl, H6⟩
    clear H5 l5 n5 c5
    obtain ⟨l6, n6, c6⟩ := Holds.frzFacts (H6) hb5
    go_wp2_with fail
    refine (supGet_spec H6 hT5 hr5).mono ?_
    rintro e w7 ⟨rfl, H7⟩
    rw [sup_round hr]
    clear H6 l6 n6 c6
    obtain ⟨l7, n7, c7⟩ := Holds.frzFacts (H7) hb5
    go_wp2_with fail
    obtain ⟨R8, le8, H8, hb8⟩ := H7.allocR (.cells #[.int .i64 f, .int .i64 d, .int .i64 s] tSuper)
    have hb9 := le8.blk _ _ hb5
    have hr9 := Rd.le hr5 le8
    generalize (World.alloc ..) = w8 at H8 ⊢
    generalize w7.heap.size = g8 at hb8 ⊢
    clear H7 l7 n7 c7
    refine (hR1 H8).mono ?_
    rintro e w9 ⟨rfl, H9⟩
    clear H8
    obtain ⟨l9, n9, c9⟩ := Holds.frzFacts (H9) hb9
    go_wp2_with fail
    refine (rsupPut_spec H9 hr).mono ?_
    rintro e w10 ⟨o10, rfl, H10⟩
    clear H9 l9 n9 c9
    go_wp2_with fail
    refine (same_spec (hr9.world H10) H10.rowRd (by omega) (by omega)).mono ?_
    rintro e w11 ⟨rfl, q, rfl⟩
    rw [show decide (supPut f d s = supPut f d s) = true from by simp]
    have H11 := H10.drop.drewN q
    clear H10
    generalize (World.drewN ..) = w11 at H11 ⊢
    obtain ⟨l11, n11, c11⟩ := Holds.frzFacts (H11) hb9
    obtain ⟨l12, n12, c12⟩ := Holds.frzFacts (H11) hb8
    go_wp2_with fail
    refine (alive17 H11).mono ?_
    rintro e w13 ⟨rfl, H12⟩
    go_wp2_with fail
    go_ret
    exact ⟨rfl, H12.toBelow (le1.trans (le2.trans (le5.trans le8)))⟩
  | false =>
    rw [hr] at hR1 hR2
    have hput : supPut f d s = [] := by rw [supPut, hr, if_neg (by decide)]
    go_enter Try.func21, Try.ntmps21
    go_wp2_with fail
    obtain ⟨R1, le1, H1, hb1⟩ := (Holds.start W).allocR (.cells #[.int .i64 f, .int .i64 d, .int .i64 s] tSuper)
    generalize W.heap.size = g at hb1 ⊢
    refine (new_crc H1).mono ?_
    rintro e w2 ⟨p, rfl, H2⟩
    obtain ⟨R2, le2, H3, hT⟩ := H2.freezeBlk
    have hb2 := le2.blk _ _ hb1
    clear H1 H2
    obtain ⟨l3, n3, c3⟩ := Holds.frzFacts (H3) hb2
    go_wp2_with fail
    refine (supPut_spec H3 hT hf9 hd9 hs9).mono ?_
    rintro e w4 ⟨o4, rfl, H4⟩
    rw [hput] at H4
    obtain ⟨a4, c4, rfl⟩ := H4.rowRd.form
    clear H3 l3 n3 c3
    obtain ⟨l4, n4, c4⟩ := Holds.frzFacts (H4) hb2
    go_wp2_with fail
    refine (hR2 H4).mono ?_
    rintro e w6 ⟨rfl, H6⟩
    clear H4 l4 n4 c4
    obtain ⟨l6, n6, c6⟩ := Holds.frzFacts (H6) hb2
    go_wp2_with fail
    refine (hR1 H6).mono ?_
    rintro e w7 ⟨rfl, H7⟩
    go_wp2_with fail
    refine (alive17 H7).mono ?_
    rintro e w8 ⟨rfl, H8⟩
    go_wp2_with fail
    go_ret
    exact ⟨rfl, H8.drop.toBelow (le1.trans le2)⟩
theorem superGets_walk (W : World) {va vb : Value} {b p : List UInt8} (ha : RdB W.cell? va b) (hb : RdB W.cell? vb p) :
    Calls Try.prog 22 #[va, vb] W fun e w' => e = .returned (.bool true) ∧ Below W.heap.size W w' := by
  have ha0 := ha
  have hb0 := hb
  obtain ⟨aa, ca, rfl⟩ := ha.form
  obtain ⟨ab, cb, rfl⟩ := hb.form
  have fin : Calls Try.prog 126 #[] W fun e w' => e = .returned (.bool true) ∧ Below W.heap.size W w' := (alive17 (Holds.start W)).mono fun e w' h => ⟨h.1, h.2.toBelow (Snap.le.refl _)⟩
  by_cases h1 : b.length ≤ 100
  · have t1 : (decide ((100 : Int) < b.length)) = false := by simp; omega
    by_cases h2 : p.length ≤ 60
    · have t2 : (decide ((60 : Int) < p.length)) = false := by simp; omega
      have hsl := sealS_len h2
      go_enter Try.func22, Try.ntmps22
      go_wp2_with fail
      refine (new_crc (Holds.start W)).mono ?_
      rintro e w1 ⟨pt, rfl, H1⟩
      obtain ⟨R1, le1, H2, hT⟩ := H1.freezeBlk
      clear H1
      go_wp2_with fail
      refine (rsseal_spec H2 (Rd.le (R := Snap.of W) hb0 le1) h2).mono ?_
      rintro e w2 ⟨o2, rfl, H3⟩
      obtain ⟨R2, le2, H4, hs⟩ := H3.freezeRow
      obtain ⟨sa, sc, rfl⟩ := hs.form
      clear H2 H3
      have hs := RdB.at_len hs hsl
      rw [hsl]
      go_wp2_with fail
      obtain ⟨R3, le3, H5, hb3⟩ := H4.allocR (.cells #[.slice aa b.length ca, .slice sa 64 sc] tBytes)
      generalize (World.alloc ..) = w3 at H5 ⊢
      generalize w2.heap.size = g at hb3 ⊢
      have hT3 := (le2.trans le3).blk _ _ hT
      have ha3 := Rd.le (R := Snap.of W) ha0 (le1.trans (le2.trans le3))
      have hs3 := Rd.le hs le3
      have le0 := le1.trans (le2.trans le3)
      clear H4
      go_loopw [27] (fun i wx => ∃ j : Nat, i = .int .i64 j ∧ j ≤ 2 ∧ Holds wx R3 emp) (fun i _ => 2 - (intOf i).toNat)
      case atStart => exact ⟨0, rfl, by decide, H5⟩
      case round =>
        clear H5
        obtain ⟨j, rfl, hj, H6⟩ := hrel
        by_cases hlt : j < 2
        · have hx : ∃ (vx : Value) (x : List UInt8), (#[.slice aa b.length ca, .slice sa 64 sc] : Array Value)[j]? = some vx ∧ RdB R3.cell? vx x ∧ x.length ≤ 100 := by
            rcases (by omega : j = 0 ∨ j = 1) with rfl | rfl
            · exact ⟨_, b, rfl, ha3, h1⟩
            · exact ⟨_, sealS p, rfl, hs3, by omega⟩
          obtain ⟨vx, x, hvx, hrx, hxl⟩ := hx
          obtain ⟨xa, xc, rfl⟩ := hrx.form
          have l6 := H6.frzLt hb3
          have cj : wr.cell? ⟨g, j, none⟩ = some (.slice xa x.length xc) := (H6.frz hb3 j).trans hvx
          have hself := fun f d s => supEq_refl f d s
          have hback : (supGot x).1 = true → supPut (supGot x).2.1 (supGot x).2.2.1 (supGot x).2.2.2 = x := sup_back
          have hbd : (supGot x).2.1 ≤ 9223372036854775807 ∧ (supGot x).2.2.1 ≤ 9223372036854775807 ∧ (supGot x).2.2.2 ≤ 9223372036854775807 := by
            have hv : ∀ l : List UInt8, l.length ≤ 4 → (valB l : Int) ≤ 9223372036854775807 := fun l hl => by
              have h3 := valB_lt l
              have h4 := Nat.lt_of_lt_of_le h3 (Nat.pow_le_pow_right (n := 256) (by decide) hl)
              omega
            unfold supGot supAns
            split
            · decide
            · split
              · exact ⟨hv _ (by simp; omega), hv _ (by simp; omega), hv _ (by simp; omega)⟩
              · decide
          have hget : ∀ {w R L}, Holds w R L → R.blk pt = some (.cells (rowC 256) tabT (0, 0)) → RdB R.cell? (.slice xa x.length xc) x → Calls Try.prog 127 #[.pointer (some ⟨pt, 0, none⟩), .slice xa x.length xc] w fun e w' => e = .returned (supRet (supGot x)) ∧ Holds w' R L := fun H hT h => supGet_spec H hT h
          have hget2 : ∀ {w R L}, Holds w R L → RdB R.cell? (.slice xa x.length xc) x → Calls Try.prog 129 #[.slice xa x.length xc] w fun e w' => e = .returned (supRet (supGot x)) ∧ Holds w' R L := fun H h => rsupGet_spec H h
          generalize supGot x = got at *
          obtain ⟨ok, f, d, s⟩ := got
          obtain ⟨hf9, hd9, hs9⟩ := hbd
          simp only at hback hf9 hd9 hs9
          have HB := Hid.mk' hback
          have hself := hself f d s
          clear hback hvx
          cases ok with
          | true =>
            go_wp2_with fail
            refine (hget H6 hT3 hrx).mono ?_
            rintro e w7 ⟨rfl, H7⟩
            clear H6 l6 cj
            go_wp2_with fail
            obtain ⟨R8, le8, H8, hb8⟩ := H7.allocR (.cells #[.int .i64 f, .int .i64 d, .int .i64 s] tSuper)
            generalize (World.alloc ..) = w8 at H8 ⊢
            generalize w7.heap.size = g8 at hb8 ⊢
            clear H7
            refine (hget2 H8 (Rd.le hrx le8)).mono ?_
            rintro e w9 ⟨rfl, H9⟩
            clear H8
            obtain ⟨l9, n9, c9⟩ := Holds.frzFacts (H9) hb8
            go_wp2_with fail
            obtain ⟨R10, le10, H10, hb10⟩ := H9.allocR (.cells #[.int .i64 f, .int .i64 d, .int .i64 s] tSuper)
            generalize (World.alloc ..) = w10 at H10 ⊢
            generalize w9.heap.size = g10 at hb10 ⊢
            clear H9 l9 n9 c9
            refine (supPut_spec H10 ((le8.trans le10).blk _ _ hT3) hf9 hd9 hs9).mono ?_
            rintro e w11 ⟨o11, rfl, H11⟩
            have e11 : supPut f d s = x := HB.out (by trivial)
            rw [e11] at H11
            clear H10
            go_wp2_with fail
            refine (same_spec H11.rowRd ((Rd.le hrx (le8.trans le10)).world H11) (by omega) (by omega)).mono ?_
            rintro e w12 ⟨rfl, q, rfl⟩
            rw [show decide (x = x) = true from by simp]
            have H12 := H11.drop.drewN q
            clear H11
            generalize (World.drewN ..) = w12 at H12 ⊢
            go_wp2_with fail
            go_roundw
            case rel => exact ⟨j + 1, by go_num, hlt, H12.weaken (le8.trans le10)⟩
            case measure => simp [intOf]; omega
          | false =>
            go_wp2_with fail
            refine (hget H6 hT3 hrx).mono ?_
            rintro e w7 ⟨rfl, H7⟩
            clear H6 l6 cj
            go_wp2_with fail
            obtain ⟨R8, le8, H8, hb8⟩ := H7.allocR (.cells #[.int .i64 f, .int .i64 d, .int .i64 s] tSuper)
            generalize (World.alloc ..) = w8 at H8 ⊢
            generalize w7.heap.size = g8 at hb8 ⊢
            clear H7
            refine (hget2 H8 (Rd.le hrx le8)).mono ?_
            rintro e w9 ⟨rfl, H9⟩
            clear H8
            obtain ⟨l9, n9, c9⟩ := Holds.frzFacts (H9) hb8
            go_wp2_with fail
            go_roundw
            case rel => exact ⟨j + 1, by go_num, hlt, (H9.garbage _).weaken le8⟩
            case measure => simp [intOf]; omega
        · go_wp2_with fail
          refine (alive17 H6).mono ?_
          rintro e w8 ⟨rfl, H8⟩
          go_wp2_with fail
          go_ret
          exact ⟨rfl, H8.toBelow le0⟩
    · have t2 : (decide ((60 : Int) < p.length)) = true := by simp; omega
      go_enter Try.func22, Try.ntmps22
      go_wp2_with fail
      refine (fin).mono ?_
      rintro e w2 ⟨rfl, H1⟩
      go_wp2_with fail
      go_ret
      exact ⟨rfl, H1⟩
  · have t1 : (decide ((100 : Int) < b.length)) = true := by simp; omega
    go_enter Try.func22, Try.ntmps22
    go_wp2_with fail
    refine (fin).mono ?_
    rintro e w2 ⟨rfl, H1⟩
    go_wp2_with fail
    go_ret
    exact ⟨rfl, H1⟩
end Sh
