/- msg: many texts. -/
import Derived.Test.YtmogagcffebbaaaMsgMany
set_option linter.unusedVariables false
set_option linter.unusedSimpArgs false
namespace Sh
open Go Go.RowKit Go.Proofs
attribute [local go_sem ↓] Go.wp_at_zero Go.wp_at_succ
set_option maxHeartbeats 1000000
set_option maxRecDepth 100000

theorem get1_spec {w : World} {R : Snap} {L : Asrt} {p g : Nat} {v : Value} {s : PSt} {t : TypeId} {fr : Nat × Nat} (hg : R.blk g = some (.cells #[.pointer (some ⟨p, 0, none⟩)] t fr)) (H : Holds w R (star (blk p #[v, .bool s.2] rdrT) L)) (hr : RdB R.cell? v s.1) (hl : s.1.length ≤ 1000000) :
    Calls Try.prog 128 #[.pointer (some ⟨g, 0, none⟩)] w fun e w' => ∃ v', e = .returned (.string ⟨(pText s).1.toArray⟩) ∧ Holds w' R (star (blk p #[v', .bool (pText s).2.2] rdrT) L) ∧ RdB R.cell? v' (pText s).2.1 := by
  obtain ⟨l1, n1, c1⟩ := Holds.frzFacts (H) hg
  go_enter Try.func128, Try.ntmps128
  go_wp2_with fail
  refine (rd_text H hr hl).mono ?_
  rintro e w2 ⟨o, v2, rfl, H2, hr2⟩
  have hc := convStr H2.rowRd
  obtain ⟨a, c, rfl⟩ := H2.rowRd.form
  go_wp2_with fail
  go_ret
  exact ⟨v2, rfl, H2.drop, hr2⟩
theorem manyStrs_spec {w : World} {R : Snap} {L : Asrt} {p g : Nat} {v : Value} {s : PSt} {t : TypeId} {fr : Nat × Nat} (hg : R.blk g = some (.cells #[.pointer (some ⟨p, 0, none⟩)] t fr)) (H : Holds w R (star (blk p #[v, .bool s.2] rdrT) L)) (hr : RdB R.cell? v s.1) (hl : s.1.length ≤ 1000000) :
    Calls Try.prog 132 #[.pointer (some ⟨p, 0, none⟩), .func (.func 128) #[] #[.pointer (some ⟨g, 0, none⟩)]] w fun e w' => ∃ o v', e = .returned o ∧ Holds w' R (star (row tStr 1 o (pMany pText (pNum 1 s).1 (pNum 1 s).2).1.length ((toStrs (pMany pText (pNum 1 s).1 (pNum 1 s).2).1).map Value.string)) (star (blk p #[v', .bool (pMany pText (pNum 1 s).1 (pNum 1 s).2).2.2] rdrT) L)) ∧ RdB R.cell? v' (pMany pText (pNum 1 s).1 (pNum 1 s).2).2.1 := by
  obtain ⟨q, hq⟩ : ∃ q, q = pMany pText (pNum 1 s).1 (pNum 1 s).2 := ⟨_, rfl⟩
  rw [← hq]
  go_enter Try.func132, Try.ntmps132
  go_wp2_with fail
  refine (rd_num (k := 1) (by decide) H hr).mono ?_
  rintro e w2 ⟨v2, rfl, H2, hr2⟩
  have hlt := pNum1_lt s
  have hls := Nat.le_trans (pNum_le 1 s) hl
  clear H hr hl
  generalize (pNum 1 s).1 = n at *
  generalize (pNum 1 s).2 = s1 at *
  have HQ := Hid.mk' hq
  have HG := Hid.mk' hg
  clear hq hg
  go_wp2_with fail
  go_loopw [5, 6] (fun o i wx => ∃ (m : Nat) (X : List (List UInt8)) (s2 : PSt) (v2 : Value), i = .int .i64 m ∧ X.length + m ≤ 255 ∧ Hid (q = (X ++ (pMany pText m s2).1, (pMany pText m s2).2)) ∧ Hid (RdB R.cell? v2 s2.1) ∧ s2.1.length ≤ 1000000 ∧ Holds wx R (star (row tStr 1 o X.length ((toStrs X).map Value.string)) (star (blk p #[v2, .bool s2.2] rdrT) L))) (fun _ i _ => (intOf i).toNat)
  case atStart => exact ⟨n, [], s1, v2, rfl, by simp only [List.length_nil]; omega, Hid.mk' (by rw [HQ.out]; rfl), Hid.mk' hr2, hls, H2.nilRow _ 1⟩
  case round =>
    clear H2 hr2
    obtain ⟨m, X, s2, v3, rfl, hX, hQ, hR, hs2, H3⟩ := hrel
    have H3s := H3.swap
    cases m with
    | zero =>
      have i1 : ¬ ((0 : Nat) : Int) > 0 := by omega
      go_wp2_with fail
      go_ret
      have h := hQ.out
      rw [pMany, List.append_nil] at h
      rw [h]
      exact ⟨_, rfl, v3, H3, hR.out⟩
    | succ m =>
      have i1 : (((m + 1 : Nat) : Int) > 0) := by omega
      have d1 : decide (((m + 1 : Nat) : Int) > 0) = true := decide_eq_true i1
      have d2 : decide ((0 : Int) < ((m + 1 : Nat) : Int)) = true := decide_eq_true i1
      cases hb : s2.2 with
      | true =>
        rw [hb] at H3 H3s
        go_wp2_with fail
        refine (rgood_spec H3s).mono ?_
        rintro e w4 ⟨rfl, rfl⟩
        go_wp2_with fail
        go_ret
        have h := hQ.out
        rw [pMany_bad hb, List.append_nil] at h
        rw [h, hb]
        exact ⟨_, v3, rfl, H3, hR.out⟩
      | false =>
        rw [hb] at H3 H3s
        go_wp2_with fail
        refine (rgood_spec H3s).mono ?_
        rintro e w4 ⟨rfl, rfl⟩
        go_wp2_with fail
        refine (get1_spec (s := s2) HG.out (by rw [hb]; exact H3s) hR.out hs2).mono ?_
        rintro e w5 ⟨v5, rfl, H5, hr5⟩
        have H6 := H5.alloc #[.string ⟨(pText s2).1.toArray⟩] tStr
        have hr6 : RdS _ _ [(⟨(pText s2).1.toArray⟩ : ByteArray)] := (H6.toRow 1 1 1 (Nat.le_refl _) (by simp [maxLen]) rfl).rowRd
        clear H3 H3s
        go_wp2_with (with_reducible refine stop_append ?_)
        refine Hold.go (wpList_append rfl _ _ rfl undStrs infoStr rfl (by decide) rfl rfl H6.drop.swap hr6 (strs_one _) (by simp only [maxLen, List.length_singleton]; omega) (by simp only [List.length_singleton]; omega) ?_)
        intro v8 w8 H8
        have hw : IntKind.i64.wrap (((m + 1 : Nat) : Int) - 1) = (m : Int) := by
          rw [show (((m + 1 : Nat) : Int) - 1) = (m : Int) by omega]; exact IntWalk.i64_in _ (by omega)
        go_wp2_with fail
        go_roundw
        case rel =>
          refine ⟨m, X ++ [(pText s2).1], (pText s2).2, v5, by go_num, by rw [List.length_append, List.length_singleton]; omega, Hid.mk' ?_, Hid.mk' hr5, Nat.le_trans (pText_le s2) hs2, ?_⟩
          · rw [hQ.out, pMany_more hb]; simp
          · rw [List.length_append, List.length_singleton, toStrs, List.map_append]
            simpa [toStrs] using H8
        case measure => simp [intOf]
end Sh
