/- msg: what Get reads by: numbers, texts, many of them. -/
import Derived.Test.YtmogagcffebbaaaMsgSize
import Derived.Test.YtmogagcffebbaaaBagMem
set_option linter.unusedVariables false
set_option linter.unusedSimpArgs false
namespace Sh
open Go Go.RowKit Go.Proofs
attribute [local go_sem ↓] Go.wp_at_zero Go.wp_at_succ
set_option maxHeartbeats 1000000
set_option maxRecDepth 100000

abbrev rdrT : TypeId := 211
theorem rd_num {w : World} {R : Snap} {L : Asrt} {p : Nat} {v : Value} {s : PSt} {k : Nat} (hk : wid k = k) (H : Holds w R (star (blk p #[v, .bool s.2] rdrT) L)) (hr : RdB R.cell? v s.1) :
    Calls Try.prog 127 #[.pointer (some ⟨p, 0, none⟩), .int .i64 (k : Int)] w fun e w' => ∃ v', e = .returned (.int .i64 ((pNum k s).1 : Nat)) ∧ Holds w' R (star (blk p #[v', .bool (pNum k s).2.2] rdrT) L) ∧ RdB R.cell? v' (pNum k s).2.1 := by
  have h := rnum_spec (k := (k : Int)) H hr
  rw [hk] at h
  exact h
theorem rd_text {w : World} {R : Snap} {L : Asrt} {p : Nat} {v : Value} {s : PSt} (H : Holds w R (star (blk p #[v, .bool s.2] rdrT) L)) (hr : RdB R.cell? v s.1) (hl : s.1.length ≤ 1000000) :
    Calls Try.prog 129 #[.pointer (some ⟨p, 0, none⟩)] w fun e w' => ∃ o v', e = .returned o ∧ Holds w' R (star (rowB o (pText s).1) (star (blk p #[v', .bool (pText s).2.2] rdrT) L)) ∧ RdB R.cell? v' (pText s).2.1 := rtext_spec H hr hl
theorem cutRest_le (l : List UInt8) (b : Bool) (n : Nat) : (cutRest l b n).length ≤ l.length := by
  unfold cutRest; split
  · rw [List.length_drop]; omega
  · simp
theorem pNum_le (k : Nat) (s : PSt) : (pNum k s).2.1.length ≤ s.1.length := cutRest_le _ _ _
theorem pText_le (s : PSt) : (pText s).2.1.length ≤ s.1.length := Nat.le_trans (cutRest_le _ _ _) (pNum_le 1 s)
theorem pNum1_lt (s : PSt) : (pNum 1 s).1 < 256 := by
  show valB (cutOut s.1 s.2 1) < 256
  have h := valB_lt (cutOut s.1 s.2 1)
  have h2 : (cutOut s.1 s.2 1).length ≤ 1 := by
    unfold cutOut; split
    · rw [List.length_take]; omega
    · simp
  have h3 : 256 ^ (cutOut s.1 s.2 1).length ≤ 256 ^ 1 := Nat.pow_le_pow_right (by omega) h2
  omega
theorem get2_spec {w : World} {R : Snap} {L : Asrt} {p g : Nat} {v : Value} {s : PSt} {t : TypeId} {fr : Nat × Nat} (hg : R.blk g = some (.cells #[.func (.func 127) #[.pointer (some ⟨p, 0, none⟩)] #[]] t fr)) (H : Holds w R (star (blk p #[v, .bool s.2] rdrT) L)) (hr : RdB R.cell? v s.1) :
    Calls Try.prog 131 #[.pointer (some ⟨g, 0, none⟩)] w fun e w' => ∃ v', e = .returned (.int .i64 ((pNum 4 s).1 : Nat)) ∧ Holds w' R (star (blk p #[v', .bool (pNum 4 s).2.2] rdrT) L) ∧ RdB R.cell? v' (pNum 4 s).2.1 := by
  obtain ⟨l1, n1, c1⟩ := Holds.frzFacts (H) hg
  go_enter Try.func131, Try.ntmps131
  go_wp2_with fail
  refine (rd_num (k := 4) (by decide) H hr).mono ?_
  rintro e w2 ⟨v2, rfl, H2, hr2⟩
  go_wp2_with fail
  go_ret
  exact ⟨v2, rfl, H2, hr2⟩
theorem pMany_more {α : Type} {f : PSt → α × PSt} {m : Nat} {s : PSt} (h : s.2 = false) : pMany f (m + 1) s = ((f s).1 :: (pMany f m (f s).2).1, (pMany f m (f s).2).2) := by
  rw [pMany, if_neg (by simp [h])]
theorem pMany_bad {α : Type} {f : PSt → α × PSt} {m : Nat} {s : PSt} (h : s.2 = true) : pMany f m s = ([], s) := by
  cases m with
  | zero => rfl
  | succ m => rw [pMany, if_pos h]
theorem manyInts_spec {w : World} {R : Snap} {L : Asrt} {p g : Nat} {v : Value} {s : PSt} {t : TypeId} {fr : Nat × Nat} (hg : R.blk g = some (.cells #[.func (.func 127) #[.pointer (some ⟨p, 0, none⟩)] #[]] t fr)) (H : Holds w R (star (blk p #[v, .bool s.2] rdrT) L)) (hr : RdB R.cell? v s.1) :
    Calls Try.prog 130 #[.pointer (some ⟨p, 0, none⟩), .func (.func 131) #[] #[.pointer (some ⟨g, 0, none⟩)]] w fun e w' => ∃ o v', e = .returned o ∧ Holds w' R (star (row tInt 1 o (pMany (pNum 4) (pNum 1 s).1 (pNum 1 s).2).1.length ((toInts (pMany (pNum 4) (pNum 1 s).1 (pNum 1 s).2).1).map (Value.int .i64))) (star (blk p #[v', .bool (pMany (pNum 4) (pNum 1 s).1 (pNum 1 s).2).2.2] rdrT) L)) ∧ RdB R.cell? v' (pMany (pNum 4) (pNum 1 s).1 (pNum 1 s).2).2.1 := by
  obtain ⟨q, hq⟩ : ∃ q, q = pMany (pNum 4) (pNum 1 s).1 (pNum 1 s).2 := ⟨_, rfl⟩
  rw [← hq]
  go_enter Try.func130, Try.ntmps130
  go_wp2_with fail
  refine (rd_num (k := 1) (by decide) H hr).mono ?_
  rintro e w2 ⟨v2, rfl, H2, hr2⟩
  have hlt := pNum1_lt s
  clear H hr
  generalize (pNum 1 s).1 = n at *
  generalize (pNum 1 s).2 = s1 at *
  have HQ := Hid.mk' hq
  have HG := Hid.mk' hg
  clear hq hg
  go_wp2_with fail
  go_loopw [5, 6] (fun o i wx => ∃ (m : Nat) (X : List Nat) (s2 : PSt) (v2 : Value), i = .int .i64 m ∧ X.length + m ≤ 255 ∧ Hid (q = (X ++ (pMany (pNum 4) m s2).1, (pMany (pNum 4) m s2).2)) ∧ Hid (RdB R.cell? v2 s2.1) ∧ Holds wx R (star (row tInt 1 o X.length ((toInts X).map (Value.int .i64))) (star (blk p #[v2, .bool s2.2] rdrT) L))) (fun _ i _ => (intOf i).toNat)
  case atStart => exact ⟨n, [], s1, v2, rfl, by simp only [List.length_nil]; omega, Hid.mk' (by rw [HQ.out]; rfl), Hid.mk' hr2, H2.nilRow _ 1⟩
  case round =>
    clear H2 hr2
    obtain ⟨m, X, s2, v3, rfl, hX, hQ, hR, H3⟩ := hrel
    have H3s := H3.swap
    cases m with
    | zero =>
      have i1 : ¬ ((0 : Nat) : Int) > 0 := by omega
      go_wp2_with fail
      go_ret
      have h := hQ.out
      rw [pMany, List.append_nil] at h
      rw [h]
      exact ⟨_, rfl, v3, H3, hR.out⟩
    | succ m =>
      have i1 : (((m + 1 : Nat) : Int) > 0) := by omega
      have d1 : decide (((m + 1 : Nat) : Int) > 0) = true := decide_eq_true i1
      have d2 : decide ((0 : Int) < ((m + 1 : Nat) : Int)) = true := decide_eq_true i1
      cases hb : s2.2 with
      | true =>
        rw [hb] at H3 H3s
        go_wp2_with fail
        refine (rgood_spec H3s).mono ?_
        rintro e w4 ⟨rfl, rfl⟩
        go_wp2_with fail
        go_ret
        have h := hQ.out
        rw [pMany_bad hb, List.append_nil] at h
        rw [h, hb]
        exact ⟨_, v3, rfl, H3, hR.out⟩
      | false =>
        rw [hb] at H3 H3s
        go_wp2_with fail
        refine (rgood_spec H3s).mono ?_
        rintro e w4 ⟨rfl, rfl⟩
        go_wp2_with fail
        refine (get2_spec (s := s2) HG.out (by rw [hb]; exact H3s) hR.out).mono ?_
        rintro e w5 ⟨v5, rfl, H5, hr5⟩
        have H6 := H5.alloc #[.int .i64 ((pNum 4 s2).1 : Nat)] tInt
        have hr6 : RdI _ _ [((pNum 4 s2).1 : Int)] := (H6.toRow 1 1 1 (Nat.le_refl _) (by simp [maxLen]) rfl).rowRd
        clear H3 H3s
        go_wp2_with (with_reducible refine stop_append ?_)
        refine Hold.go (wpList_append rfl _ _ rfl undInts infoInt rfl (by decide) rfl rfl H6.drop.swap hr6 (ints_one _) (by simp only [maxLen, List.length_singleton]; omega) (by simp only [List.length_singleton]; omega) ?_)
        intro v8 w8 H8
        have hw : IntKind.i64.wrap (((m + 1 : Nat) : Int) - 1) = (m : Int) := by
          rw [show (((m + 1 : Nat) : Int) - 1) = (m : Int) by omega]; exact IntWalk.i64_in _ (by omega)
        go_wp2_with fail
        go_roundw
        case rel =>
          refine ⟨m, X ++ [(pNum 4 s2).1], (pNum 4 s2).2, v5, by go_num, by rw [List.length_append, List.length_singleton]; omega, Hid.mk' ?_, Hid.mk' hr5, ?_⟩
          · rw [hQ.out, pMany_more hb]; simp
          · rw [List.length_append, List.length_singleton, toInts, List.map_append]
            simpa [toInts] using H8
        case measure => simp [intOf]
end Sh
