/- record.share. -/
import Derived.Test.YtmogagcffebbaaaSecs
import Derived.Test.YtmogagcffebbaaaMsgMany
import Derived.Test.YtmogagcffebbaaaSector
set_option linter.unusedVariables false
set_option linter.unusedSimpArgs false
namespace Sh
open Go Go.RowKit Go.Proofs
attribute [local go_sem ↓] Go.wp_at_zero Go.wp_at_succ
set_option maxHeartbeats 1000000
set_option maxRecDepth 100000

def textP (b : List UInt8) : List UInt8 := (pText ((openP b).drop 11, false)).1
def shareG (bs : List (List UInt8)) : List UInt8 := if bs.all openOk = true then bs.flatMap textP else []
theorem textP_len (b : List UInt8) : (textP b).length ≤ 255 := by
  have h1 : (textP b).length ≤ (pNum 1 ((openP b).drop 11, false)).1 := by
    show (cutOut _ _ _).length ≤ _
    unfold cutOut; split
    · rw [List.length_take]; omega
    · simp
  have := pNum1_lt ((openP b).drop 11, false)
  omega
theorem flatT_len (bs : List (List UInt8)) : (bs.flatMap textP).length ≤ 255 * bs.length := by
  induction bs with
  | nil => simp
  | cons b bs ih => rw [List.flatMap_cons, List.length_append, List.length_cons]; have := textP_len b; omega
theorem openOk_len {b : List UInt8} (h : openOk b = true) : (openP b).length = 60 := by
  unfold openP
  rw [if_pos h]
  unfold openOk at h
  simp only [Bool.and_eq_true, decide_eq_true_eq] at h
  rw [List.length_take, h.1]; rfl
theorem share_spec {w : World} {R : Snap} {L : Asrt} {pt : Nat} {v : Value} {ss : List (Value × List UInt8)} (H : Holds w R L) (hT : R.blk pt = some (.cells (rowC 256) tabT (0, 0))) (hr : RdBB R.cell? v ss) (hn : ss.length ≤ 1000) :
    Calls Try.prog 159 #[.pointer (some ⟨pt, 0, none⟩), v] w fun e w' => ∃ o, e = .returned o ∧ Holds w' R (star (rowB o (shareG (ss.map Prod.snd))) L) := by
  obtain ⟨a, c, rfl⟩ := hr.form
  obtain ⟨n, hnn⟩ : ∃ n, n = ss.length := ⟨_, rfl⟩
  obtain ⟨bs, hbs⟩ : ∃ bs, bs = ss.map Prod.snd := ⟨_, rfl⟩
  rw [← hbs]
  have HR := Hid.mk' hr
  have HN := Hid.mk' hnn
  have hbl : bs.length = n := by rw [hbs, List.length_map, hnn]
  have HBL := Hid.mk' hbl
  have HBS := Hid.mk' hbs
  rw [← hnn] at hn ⊢
  clear hr hnn hbl hbs
  go_enter Try.func159, Try.ntmps159
  go_wp2_with fail
  go_loopw [5, 12] (fun o i wx => ∃ j : Nat, i = .int .i64 j ∧ j ≤ n ∧ Hid (∀ k (h : k < bs.length), k < j → openOk bs[k] = true) ∧ Holds wx R (star (rowB o ((bs.take j).flatMap textP)) L)) (fun _ i _ => n - (intOf i).toNat)
  case atStart => exact ⟨0, rfl, Nat.zero_le _, Hid.mk' (fun k _ h => absurd h (Nat.not_lt_zero k)), H.nilRow _ 1⟩
  case round =>
    obtain ⟨j, rfl, hj, hA, H3⟩ := hrel
    clear H
    by_cases hlt : j < n
    · have d1 : decide ((j : Int) < (n : Int)) = true := by simp; omega
      have hjl : j < ss.length := by rw [← HN.out]; exact hlt
      obtain ⟨b1, o1, ha, hc, hq⟩ := RdBB.at HR.out hjl
      subst ha
      have hc := H3.cell hc
      have hjb : j < bs.length := by rw [HBL.out]; exact hlt
      have hy0 : bs[j] = ss[j].2 := by simp [HBS.out]
      obtain ⟨y, hy⟩ : ∃ y, y = bs[j] := ⟨_, rfl⟩
      rw [← hy0, ← hy] at hq
      have HY := Hid.mk' hy
      obtain ⟨vj, hvj⟩ : ∃ vj, vj = ss[j].1 := ⟨_, rfl⟩
      rw [← hvj] at hc hq
      obtain ⟨aj, cj, rfl⟩ := hq.form
      have HQ := Hid.mk' hq
      have i1 : (0 : Int) ≤ (j : Int) := by omega
      have i2 : (j : Int) < (n : Int) := by omega
      clear hy0 hy hvj hq
      go_wp2_with fail
      refine (sopen_spec H3 hT HQ.out).mono ?_
      rintro e w4 ⟨o4, rfl, H4⟩
      cases hok : openOk y with
      | false =>
        have HOK := Hid.mk' hok
        clear hok H3
        go_wp2_with fail
        go_ret
        have hz : shareG bs = [] := by
          unfold shareG
          rw [if_neg]
          intro h
          have := List.all_eq_true.1 h _ (List.getElem_mem hjb)
          rw [← HY.out, HOK.out] at this
          cases this
        rw [hz]
        exact ⟨_, rfl, H4.drop2.drop.nilRow _ 1⟩
      | true =>
        have HOK := Hid.mk' hok
        obtain ⟨R5, le5, H5, hr5⟩ := H4.freezeRow
        obtain ⟨pl, hpl⟩ : ∃ pl, pl = openP y := ⟨_, rfl⟩
        have hl60 := openOk_len hok
        rw [← hpl] at hl60
        replace hr5 : RdB R5.cell? o4 pl := by rw [hpl]; exact hr5
        obtain ⟨a4, c4, rfl⟩ := hr5.form
        have hB1 : 60 ≤ c4 := by have := hr5.bounds; omega
        have hsub := RdB.sub hr5 11 60 c4 (by decide) (by omega) (by omega) (Nat.le_refl _)
        rw [List.take_of_length_le (by rw [List.length_drop]; omega)] at hsub
        have htx : (pText (pl.drop 11, false)).1 = textP y := by rw [hpl]; rfl
        have hdl : (pl.drop 11).length ≤ 1000000 := by rw [List.length_drop]; omega
        have hln : (List.flatMap textP (bs.take j)).length ≤ 255000 := by
          have h1 := flatT_len (bs.take j)
          have h2 : (bs.take j).length ≤ 1000 := by rw [List.length_take]; omega
          omega
        have HTX := Hid.mk' htx
        have hty := textP_len y
        have HPL := Hid.mk' hpl
        simp only [hl60]
        clear H3 H4 hok htx hpl hr5 hl60
        go_wp2_with fail
        refine (read_spec H5 hsub).mono ?_
        rintro e w6 ⟨p6, rfl, H6⟩
        go_wp2_with fail
        refine (rd_text (s := (pl.drop 11, false)) H6 hsub hdl).mono ?_
        rintro e w7 ⟨o7, v7, rfl, H7, hr7⟩
        rw [HTX.out] at H7
        obtain ⟨a7, c7, rfl⟩ := H7.rowRd.form
        have hrd : RdB w7.cell? (.slice a7 (textP y).length c7) (textP y) := H7.rowRd
        have H8 := H7.drop2.swap
        clear H5 H6 hsub hr7 hdl
        go_wp2_with (with_reducible refine stop_append ?_)
        refine Hold.go (wpList_appendB (l := List.flatMap textP (bs.take j)) (k := textP y) rfl _ _ rfl rfl rfl H8 hrd (by omega) ?_)
        intro v9 w9 H9
        go_wp2_with fail
        go_roundw
        case rel =>
          refine ⟨j + 1, by go_num, hlt, Hid.mk' (fun k h1 h2 => ?_), ?_⟩
          · rcases Nat.lt_or_ge k j with h3 | h3
            · exact hA.out k h1 h3
            · obtain rfl : k = j := by omega
              rw [← HY.out]; exact HOK.out
          · rw [List.take_succ_eq_append_getElem hjb, List.flatMap_append, ← HY.out]
            simp only [List.flatMap_cons, List.flatMap_nil, List.append_nil]
            exact (H9.drop2).weaken le5
        case measure => simp [intOf]; omega
    · have d1 : decide ((j : Int) < (n : Int)) = false := by simp; omega
      have hz : shareG bs = (bs.take j).flatMap textP := by
        unfold shareG
        rw [if_pos, List.take_of_length_le (by rw [HBL.out]; omega)]
        rw [List.all_eq_true]
        intro x hx
        obtain ⟨k, hk, rfl⟩ := List.getElem_of_mem hx
        exact hA.out k hk (by have := HBL.out; omega)
      have HZ := Hid.mk' hz
      clear hz
      go_wp2_with fail
      go_ret
      rw [HZ.out]
      exact ⟨_, rfl, H3⟩
end Sh
