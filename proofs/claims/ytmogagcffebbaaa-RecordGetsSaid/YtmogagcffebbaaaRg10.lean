/- Secs RecShare SectorRef SectorMath RecMath RecRPut: joined texts, each with its own sentence below. -/
import Derived.Test.YtmogagcffebbaaaRg3
import Derived.Test.YtmogagcffebbaaaRg7
import Derived.Test.YtmogagcffebbaaaRg8
import Derived.Test.YtmogagcffebbaaaRg6
import Derived.Test.YtmogagcffebbaaaRg9
import Derived.Deep.RegionHeld3
/- Sectors: a slice of slices that is read. -/
set_option linter.unusedVariables false
set_option linter.unusedSimpArgs false
namespace Sh
open Go Go.RowKit Go.Proofs
attribute [local go_sem ↓] Go.wp_at_zero Go.wp_at_succ
set_option maxHeartbeats 1000000
set_option maxRecDepth 100000

def RdBB (c : Addr → Option Value) (v : Value) (ss : List (Value × List UInt8)) : Prop := Rd c 1 v ss.length (ss.map Prod.fst) ∧ ∀ q ∈ ss, RdB c q.1 q.2
theorem RdBB.le {R R' : Snap} {v : Value} {ss : List (Value × List UInt8)} (h : RdBB R.cell? v ss) (l : R.le R') : RdBB R'.cell? v ss := ⟨Rd.le h.1 l, fun q hq => Rd.le (h.2 q hq) l⟩
theorem RdBB.world {w : World} {R : Snap} {L : Asrt} {v : Value} {ss : List (Value × List UInt8)} (h : RdBB R.cell? v ss) (H : Holds w R L) : RdBB w.cell? v ss := ⟨Rd.world h.1 H, fun q hq => Rd.world (h.2 q hq) H⟩
theorem RdBB.form {c : Addr → Option Value} {v : Value} {ss : List (Value × List UInt8)} (h : RdBB c v ss) : ∃ a cap, v = .slice a ss.length cap := Rd.form h.1
theorem RdBB.at {c : Addr → Option Value} {a : Option Addr} {cap : Nat} {ss : List (Value × List UInt8)} (h : RdBB c (.slice a ss.length cap) ss) {j : Nat} (hj : j < ss.length) :
    ∃ b o, a = some ⟨b, o, none⟩ ∧ c ⟨b, o + j, none⟩ = some ss[j].1 ∧ RdB c ss[j].1 ss[j].2 := by
  obtain ⟨h1, h2⟩ := h
  obtain ⟨b, o, h3, h4⟩ := Rd.open h1 (by omega)
  exact ⟨b, o, h3, h4 j _ (by rw [List.getElem?_map, List.getElem?_eq_getElem hj]; rfl), h2 _ (List.getElem_mem hj)⟩
theorem RdBB.sub {c : Addr → Option Value} {a : Option Addr} {cap : Nat} {ss : List (Value × List UInt8)} (h : RdBB c (.slice a ss.length cap) ss) (lo hi cap' : Nat) (h1 : lo ≤ hi) (h2 : hi ≤ ss.length) (h3 : hi ≤ cap') (h4 : cap' ≤ cap) :
    RdBB c (.slice (adr a cap' lo 1) (hi - lo) (cap' - lo)) ((ss.drop lo).take (hi - lo)) := by
  have e : ((ss.drop lo).take (hi - lo)).length = hi - lo := by rw [List.length_take, List.length_drop]; omega
  refine ⟨?_, fun q hq => h.2 q (List.mem_of_mem_drop (List.mem_of_mem_take hq))⟩
  rw [e, List.map_take, List.map_drop]
  have := Rd.sub h.1 lo hi cap' h1 h2 h3 h4
  rwa [Nat.mul_one, Nat.mul_one] at this
theorem RdBB.bounds {c : Addr → Option Value} {a : Option Addr} {cap : Nat} {ss : List (Value × List UInt8)} (h : RdBB c (.slice a ss.length cap) ss) : ss.length ≤ cap ∧ cap ≤ maxLen := ⟨(Rd.bounds h.1).1, (Rd.bounds h.1).2.1⟩
theorem freezeAll {w : World} : ∀ (q : List (Value × List UInt8)) {R : Snap} {L : Asrt}, Holds w R (star (bytesAll q) L) → ∃ R', R.le R' ∧ Holds w R' L ∧ ∀ x ∈ q, RdB R'.cell? x.1 x.2
  | [], R, L, H => ⟨R, Snap.le.refl _, H.ac (emp_star L), fun _ h => by cases h⟩
  | x :: q, R, L, H => by
    have H1 : Holds w R (star (rowB x.1 x.2) (star (bytesAll q) L)) := H.unstar
    obtain ⟨R1, le1, H2, h1⟩ := H1.freezeRow
    obtain ⟨R2, le2, H3, h2⟩ := freezeAll q H2
    refine ⟨R2, le1.trans le2, H3, fun y hy => ?_⟩
    rcases List.mem_cons.1 hy with rfl | hy
    · exact Rd.le h1 le2
    · exact h2 y hy
theorem freezeBB {w : World} {R : Snap} {L : Asrt} {o : Value} {q : List (Value × List UInt8)} (H : Holds w R (star (row tBytes 1 o q.length (q.map Prod.fst)) (star (bytesAll q) L))) : ∃ R', R.le R' ∧ Holds w R' L ∧ RdBB R'.cell? o q := by
  obtain ⟨R1, le1, H1, h1⟩ := H.freezeRow
  obtain ⟨R2, le2, H2, h2⟩ := freezeAll q H1
  exact ⟨R2, le1.trans le2, H2, Rd.le h1 le2, h2⟩
end Sh
/- record.share. -/
set_option linter.unusedVariables false
set_option linter.unusedSimpArgs false
namespace Sh
open Go Go.RowKit Go.Proofs
attribute [local go_sem ↓] Go.wp_at_zero Go.wp_at_succ
set_option maxHeartbeats 1000000
set_option maxRecDepth 100000

def textP (b : List UInt8) : List UInt8 := (pText ((openP b).drop 11, false)).1
def shareG (bs : List (List UInt8)) : List UInt8 := if bs.all openOk = true then bs.flatMap textP else []
theorem textP_len (b : List UInt8) : (textP b).length ≤ 255 := by
  have h1 : (textP b).length ≤ (pNum 1 ((openP b).drop 11, false)).1 := by
    show (cutOut _ _ _).length ≤ _
    unfold cutOut; split
    · rw [List.length_take]; omega
    · simp
  have := pNum1_lt ((openP b).drop 11, false)
  omega
theorem flatT_len (bs : List (List UInt8)) : (bs.flatMap textP).length ≤ 255 * bs.length := by
  induction bs with
  | nil => simp
  | cons b bs ih => rw [List.flatMap_cons, List.length_append, List.length_cons]; have := textP_len b; omega
theorem openOk_len {b : List UInt8} (h : openOk b = true) : (openP b).length = 60 := by
  unfold openP
  rw [if_pos h]
  unfold openOk at h
  simp only [Bool.and_eq_true, decide_eq_true_eq] at h
  rw [List.length_take, h.1]; rfl
theorem share_spec {w : World} {R : Snap} {L : Asrt} {pt : Nat} {v : Value} {ss : List (Value × List UInt8)} (H : Holds w R L) (hT : R.blk pt = some (.cells (rowC 256) tabT (0, 0))) (hr : RdBB R.cell? v ss) (hn : ss.length ≤ 1000) :
    Calls Try.prog 159 #[.pointer (some ⟨pt, 0, none⟩), v] w fun e w' => ∃ o, e = .returned o ∧ Holds w' R (star (rowB o (shareG (ss.map Prod.snd))) L) := by
  obtain ⟨a, c, rfl⟩ := hr.form
  obtain ⟨n, hnn⟩ : ∃ n, n = ss.length := ⟨_, rfl⟩
  obtain ⟨bs, hbs⟩ : ∃ bs, bs = ss.map Prod.snd := ⟨_, rfl⟩
  rw [← hbs]
  have HR := Hid.mk' hr
  have HN := Hid.mk' hnn
  have hbl : bs.length = n := by rw [hbs, List.length_map, hnn]
  have HBL := Hid.mk' hbl
  have HBS := Hid.mk' hbs
  rw [← hnn] at hn ⊢
  clear hr hnn hbl hbs
  go_enter Try.func159, Try.ntmps159
  go_wp2_with fail
  go_loopw [5, 12] (fun o i wx => ∃ j : Nat, i = .int .i64 j ∧ j ≤ n ∧ Hid (∀ k (h : k < bs.length), k < j → openOk bs[k] = true) ∧ Holds wx R (star (rowB o ((bs.take j).flatMap textP)) L)) (fun _ i _ => n - (intOf i).toNat)
  case atStart => exact ⟨0, rfl, Nat.zero_le _, Hid.mk' (fun k _ h => absurd h (Nat.not_lt_zero k)), H.nilRow _ 1⟩
  case round =>
    obtain ⟨j, rfl, hj, hA, H3⟩ := hrel
    clear H
    by_cases hlt : j < n
    · have d1 : decide ((j : Int) < (n : Int)) = true := by simp; omega
      have hjl : j < ss.length := by rw [← HN.out]; exact hlt
      obtain ⟨b1, o1, ha, hc, hq⟩ := RdBB.at HR.out hjl
      subst ha
      have hc := H3.cell hc
      have hjb : j < bs.length := by rw [HBL.out]; exact hlt
      have hy0 : bs[j] = ss[j].2 := by simp [HBS.out]
      obtain ⟨y, hy⟩ : ∃ y, y = bs[j] := ⟨_, rfl⟩
      rw [← hy0, ← hy] at hq
      have HY := Hid.mk' hy
      obtain ⟨vj, hvj⟩ : ∃ vj, vj = ss[j].1 := ⟨_, rfl⟩
      rw [← hvj] at hc hq
      obtain ⟨aj, cj, rfl⟩ := hq.form
      have HQ := Hid.mk' hq
      have i1 : (0 : Int) ≤ (j : Int) := by omega
      have i2 : (j : Int) < (n : Int) := by omega
      clear hy0 hy hvj hq
      go_wp2_with fail
      refine (sopen_spec H3 hT HQ.out).mono ?_
      rintro e w4 ⟨o4, rfl, H4⟩
      cases hok : openOk y with
      | false =>
        have HOK := Hid.mk' hok
        clear hok H3
        go_wp2_with fail
        go_ret
        have hz : shareG bs = [] := by
          unfold shareG
          rw [if_neg]
          intro h
          have := List.all_eq_true.1 h _ (List.getElem_mem hjb)
          rw [← HY.out, HOK.out] at this
          cases this
        rw [hz]
        exact ⟨_, rfl, H4.drop2.drop.nilRow _ 1⟩
      | true =>
        have HOK := Hid.mk' hok
        obtain ⟨R5, le5, H5, hr5⟩ := H4.freezeRow
        obtain ⟨pl, hpl⟩ : ∃ pl, pl = openP y := ⟨_, rfl⟩
        have hl60 := openOk_len hok
        rw [← hpl] at hl60
        replace hr5 : RdB R5.cell? o4 pl := by rw [hpl]; exact hr5
        obtain ⟨a4, c4, rfl⟩ := hr5.form
        have hB1 : 60 ≤ c4 := by have := hr5.bounds; omega
        have hsub := RdB.sub hr5 11 60 c4 (by decide) (by omega) (by omega) (Nat.le_refl _)
        rw [List.take_of_length_le (by rw [List.length_drop]; omega)] at hsub
        have htx : (pText (pl.drop 11, false)).1 = textP y := by rw [hpl]; rfl
        have hdl : (pl.drop 11).length ≤ 1000000 := by rw [List.length_drop]; omega
        have hln : (List.flatMap textP (bs.take j)).length ≤ 255000 := by
          have h1 := flatT_len (bs.take j)
          have h2 : (bs.take j).length ≤ 1000 := by rw [List.length_take]; omega
          omega
        have HTX := Hid.mk' htx
        have hty := textP_len y
        have HPL := Hid.mk' hpl
        simp only [hl60]
        clear H3 H4 hok htx hpl hr5 hl60
        go_wp2_with fail
        refine (read_spec H5 hsub).mono ?_
        rintro e w6 ⟨p6, rfl, H6⟩
        go_wp2_with fail
        refine (rd_text (s := (pl.drop 11, false)) H6 hsub hdl).mono ?_
        rintro e w7 ⟨o7, v7, rfl, H7, hr7⟩
        rw [HTX.out] at H7
        obtain ⟨a7, c7, rfl⟩ := H7.rowRd.form
        have hrd : RdB w7.cell? (.slice a7 (textP y).length c7) (textP y) := H7.rowRd
        have H8 := H7.drop2.swap
        clear H5 H6 hsub hr7 hdl
        go_wp2_with (with_reducible refine stop_append ?_)
        refine Hold.go (wpList_appendB (l := List.flatMap textP (bs.take j)) (k := textP y) rfl _ _ rfl rfl rfl H8 hrd (by omega) ?_)
        intro v9 w9 H9
        go_wp2_with fail
        go_roundw
        case rel =>
          refine ⟨j + 1, by go_num, hlt, Hid.mk' (fun k h1 h2 => ?_), ?_⟩
          · rcases Nat.lt_or_ge k j with h3 | h3
            · exact hA.out k h1 h3
            · obtain rfl : k = j := by omega
              rw [← HY.out]; exact HOK.out
          · rw [List.take_succ_eq_append_getElem hjb, List.flatMap_append, ← HY.out]
            simp only [List.flatMap_cons, List.flatMap_nil, List.append_nil]
            exact (H9.drop2).weaken le5
        case measure => simp [intOf]; omega
    · have d1 : decide ((j : Int) < (n : Int)) = false := by simp; omega
      have hz : shareG bs = (bs.take j).flatMap textP := by
        unfold shareG
        rw [if_pos, List.take_of_length_le (by rw [HBL.out]; omega)]
        rw [List.all_eq_true]
        intro x hx
        obtain ⟨k, hk, rfl⟩ := List.getElem_of_mem hx
        exact hA.out k hk (by have := HBL.out; omega)
      have HZ := Hid.mk' hz
      clear hz
      go_wp2_with fail
      go_ret
      rw [HZ.out]
      exact ⟨_, rfl, H3⟩
end Sh
/- sherdref15's contracts: Seal, Open, Clear. -/
set_option linter.unusedVariables false
set_option linter.unusedSimpArgs false
namespace Sh
open Go Go.RowKit Go.Proofs
attribute [local go_sem ↓] Go.wp_at_zero Go.wp_at_succ
set_option maxHeartbeats 1000000
set_option maxRecDepth 100000

theorem rsseal_spec {w : World} {R : Snap} {L : Asrt} {v : Value} {p : List UInt8} (H : Holds w R L) (hr : RdB R.cell? v p) (h60 : p.length ≤ 60) :
    Calls Try.prog 150 #[v] w fun e w' => ∃ o, e = .returned o ∧ Holds w' R (star (rowB o (sealS p)) L) := by
  have hr0 := hr
  obtain ⟨a, c, rfl⟩ := hr.form
  have e1 : sealS p = sealB (p ++ List.replicate (60 - p.length) 0) := by rw [sealS, if_pos h60, padTo60, List.take_of_length_le h60, List.drop_replicate]
  rw [e1]
  clear e1
  go_enter Try.func150, Try.ntmps150
  go_wp2_with (with_reducible refine stop_append ?_)
  refine Hold.go (wpList_appendB rfl _ _ rfl rfl rfl (freshB H) (hr0.world (H.garbage _)) (by simp only [List.length_nil]; omega) ?_)
  intro v1 w1 H1
  rw [List.nil_append] at H1
  go_wp2_with fail
  go_loopw [3] (fun o wx => ∃ j : Nat, j ≤ 60 - p.length ∧ o = .slice (match o with | .slice a _ _ => a | _ => none) (p.length + j) (match o with | .slice _ _ c => c | _ => 0) ∧ Holds wx R (star (rowB o (p ++ List.replicate j 0)) L)) (fun o _ => 60 - (match o with | .slice _ n _ => n | _ => 0))
  case atStart =>
    obtain ⟨a1, c1, rfl⟩ := H1.rowRd.form
    exact ⟨0, Nat.zero_le _, rfl, by simpa using H1⟩
  case round =>
    clear H1
    obtain ⟨j, hj, hu, H2⟩ := hrel
    obtain ⟨a2, c2, rfl⟩ := H2.rowRd.form
    clear hu
    have hpl : (p ++ List.replicate j 0).length = p.length + j := by simp
    rw [hpl] at H2 ⊢
    have HP := Hid.mk' hpl
    clear hpl
    by_cases hlt : p.length + j < 60
    · go_wp2_with (with_reducible refine stop_append ?_)
      refine Hold.go (wpList_appendB rfl _ _ rfl rfl rfl (H2.garbage _) (blkRdB (H2.alloc _ _) [0] rfl rfl (Nat.le_of_ble_eq_true rfl)) (by rw [HP.out, List.length_singleton]; omega) ?_)
      intro v3 w3 H3
      rw [List.append_assoc, ← List.replicate_succ'] at H3
      obtain ⟨a3, c3, rfl⟩ := H3.rowRd.form
      rw [show (p ++ List.replicate (j + 1) (0 : UInt8)).length = p.length + (j + 1) by simp] at H3 ⊢
      go_wp2_with fail
      go_roundw
      case rel => exact ⟨j + 1, by omega, rfl, H3⟩
      case measure => simp; omega
    · have e2 : j = 60 - p.length := by omega
      subst e2
      obtain ⟨R3, le3, H3, hr3⟩ := H2.freezeRow
      clear H2
      have hr4 : RdB R3.cell? (.slice a2 60 c2) (p ++ List.replicate (60 - p.length) 0) := by
        have h := hr3
        rw [show (Value.slice a2 (p.length + (60 - p.length)) c2) = .slice a2 60 c2 from by rw [show p.length + (60 - p.length) = 60 by omega]] at h
        exact h
      go_wp2_with fail
      refine (cseal_ref H3 hr4 (by rw [HP.out]; omega)).mono ?_
      rintro e w4 ⟨o4, rfl, H4⟩
      go_wp2_with fail
      go_ret
      exact ⟨_, rfl, H4.weaken le3⟩
theorem rsopen_spec {w : World} {R : Snap} {L : Asrt} {v : Value} {b : List UInt8} (H : Holds w R L) (hr : RdB R.cell? v b) :
    Calls Try.prog 151 #[v] w fun e w' => ∃ o, e = .returned (.tuple #[o, .bool (openOk b)]) ∧ Holds w' R (star (rowB o (openP b)) L) := by
  have hr0 := hr
  obtain ⟨a, c, rfl⟩ := hr.form
  by_cases h64 : b.length = 64
  · have t1 : ((b.length : Int) != 64) = false := by simp [h64]
    have e0 : openOk b = goodB b := by simp [openOk, h64]
    have e1 : openP b = if goodB b = true then b.take 60 else [] := by rw [openP, e0]
    rw [e0, e1]
    have hb : b.length ≤ 1000000 := by omega
    have hB := hr0.bounds
    have i1 : (60 : Int) ≤ c := by omega
    have hpre := RdB.pre hr0 60 (by omega)
    have hp6 : (b.take 60).length ≤ 60 := by simp; omega
    clear e0 e1 h64 hB
    have hgood := cgood_ref H hr0 hb
    cases hg : goodB b with
    | true =>
      rw [hg] at hgood
      rw [if_pos rfl]
      clear hg
      go_enter Try.func151, Try.ntmps151
      go_wp2_with (with_reducible refine stop_append ?_)
      refine hgood.mono ?_
      rintro e w1 ⟨rfl, H1⟩
      go_wp2_with (with_reducible refine stop_append ?_)
      refine Hold.go (wpList_appendB rfl _ _ rfl rfl rfl (freshB H1) (hpre.world (H1.garbage _)) (by simp only [List.length_nil]; omega) ?_)
      intro v2 w2 H2
      go_wp2_with fail
      go_ret2
      exact ⟨_, rfl, H2⟩
    | false =>
      rw [hg] at hgood
      rw [if_neg (by decide)]
      clear hg
      go_enter Try.func151, Try.ntmps151
      go_wp2_with fail
      refine hgood.mono ?_
      rintro e w1 ⟨rfl, H1⟩
      go_wp2_with fail
      go_ret2
      exact ⟨_, rfl, H1.nilRow _ 1⟩
  · have t1 : ((b.length : Int) != 64) = true := by rw [bne_iff_ne]; omega
    have e0 : openOk b = false := by simp [openOk, h64]
    have e1 : openP b = [] := by simp [openP, e0]
    rw [e0, e1]
    clear e0 e1
    go_enter Try.func151, Try.ntmps151
    go_wp2_with fail
    go_ret2
    exact ⟨_, rfl, H.nilRow _ 1⟩
theorem rsclear_spec {w : World} {v : Value} {b : List UInt8} (hr : RdB w.cell? v b) :
    Calls Try.prog 173 #[v] w fun e w' => e = .returned (.bool (clearB b)) ∧ w = w' := by
  have hr0 := hr
  obtain ⟨a, c, rfl⟩ := hr.form
  have hm := hr0.max
  unfold maxLen at hm
  go_enter Try.func173, Try.ntmps173
  go_wp2_with fail
  go_loop [3] (fun i => ∃ j : Nat, i = .int .i64 j ∧ j ≤ b.length ∧ Hid (b.take j = List.replicate j 0)) (fun i => b.length - (intOf i).toNat)
  case atStart => exact ⟨0, rfl, Nat.zero_le _, rfl⟩
  case round =>
    obtain ⟨j, rfl, hj, hz⟩ := hrel
    by_cases hlt : j < b.length
    · obtain ⟨b1, o1, rfl, hc⟩ := RdB.open hr0 (by omega)
      have cj := hc j hlt
      have hs : Hid (b.take (j + 1) = b.take j ++ [b[j]]) := Hid.mk' (List.take_succ_eq_append_getElem hlt)
      have hne : Hid (b[j] ≠ 0 → clearB b = false) := Hid.mk' (fun h => by
        rw [clearB, decide_eq_false_iff_not]
        intro h2; exact h (List.eq_of_mem_replicate (by rw [← h2]; exact List.getElem_mem hlt)))
      generalize b[j] = x at cj hs hne
      clear hc
      by_cases hx : x = 0
      · subst hx
        have cj0 : w.cell? ⟨b1, o1 + j, none⟩ = some (.int .u8 0) := cj
        clear cj
        go_wp2_with fail
        go_round
        case rel => exact ⟨j + 1, by go_num, hlt, Hid.mk' (by rw [hs.out, hz.out, ← List.replicate_succ'])⟩
        case measure => simp [intOf]; omega
      · have t1 : ((x.toNat : Int) != 0) = true := by rw [bne_iff_ne]; intro h; exact hx (UInt8.toNat_inj.1 (by simpa using h))
        go_wp2_with fail
        go_ret
        exact ⟨ret_bool (hne.out hx).symm, rfl⟩
    · go_wp2_with fail
      go_ret
      refine ⟨ret_bool ?_, rfl⟩
      have h1 := hz.out
      rw [show j = b.length by omega, List.take_length] at h1
      rw [clearB, Bool.eq_iff_iff, decide_eq_true_eq, beq_iff_eq]
      constructor
      · intro h2; rw [h1, show b.length = 64 by omega]
      · intro h2; have := congrArg List.length h2; simp at this; omega
end Sh
/- A sealed sector: the plain law. -/
set_option linter.unusedVariables false
set_option linter.unusedSimpArgs false
namespace Sh
open Go Go.RowKit Go.Proofs
attribute [local go_sem ↓] Go.wp_at_zero Go.wp_at_succ
set_option maxHeartbeats 1000000
set_option maxRecDepth 100000

theorem good_zero : goodB (List.replicate 64 0) = false := by decide +kernel
theorem seal_clear {p : List UInt8} (h : p.length ≤ 60) : clearB (sealS p) = false := by
  rw [clearB, decide_eq_false_iff_not]
  intro h2
  have h3 : goodB (sealS p) = true := by rw [sealS, if_pos h]; exact goodB_seal _
  rw [h2, good_zero] at h3
  cases h3
theorem open_seal {p : List UInt8} (h : p.length ≤ 60) : openOk (sealS p) = true ∧ openP (sealS p) = padTo60 p := by
  have h1 : openOk (sealS p) = true := by
    rw [openOk, sealS_len h, sealS, if_pos h, goodB_seal]; rfl
  refine ⟨h1, ?_⟩
  rw [openP, if_pos h1, sealS, if_pos h, sealB, List.take_append_of_le_length (by rw [padTo60_len h]; decide), List.take_of_length_le (by rw [padTo60_len h]; decide)]
theorem pad_take {p : List UInt8} (h : p.length ≤ 60) : (padTo60 p).take p.length = p := by
  rw [padTo60, List.take_of_length_le h, List.take_append_of_le_length (Nat.le_refl _), List.take_length]
end Sh
/- Records' sectors: the plain law: what is put is read back. -/
set_option linter.unusedVariables false
set_option linter.unusedSimpArgs false
namespace Sh
open Go Go.RowKit Go.Proofs
attribute [local go_sem ↓] Go.wp_at_zero Go.wp_at_succ
set_option maxHeartbeats 1000000
set_option maxRecDepth 100000

theorem headR_len {r : Rc} (h : rcOk r = true) : (headR r).length = 34 := by
  have := nameB_len (rcOk_bounds h).1
  simp [headR, nb_length, wid_1, wid_2, wid_4, this]
theorem pieceL_len (r : Rc) (i : Nat) : (pieceL r i).length ≤ 48 := by
  unfold pieceL; rw [List.length_take]; omega
theorem bodyR_len (r : Rc) (i : Nat) : (bodyR r i).length ≤ 60 := by
  have := pieceL_len r i
  simp only [bodyR, tx, List.length_append, nb_length, wid_1, wid_4, List.length_take]
  omega
theorem head_open {r : Rc} (h : rcOk r = true) : openOk (sealS (headR r)) = true ∧ headR r <+: openP (sealS (headR r)) := by
  have hl : (headR r).length ≤ 60 := by rw [headR_len h]; omega
  obtain ⟨o1, o2⟩ := open_seal hl
  refine ⟨o1, ?_⟩
  rw [o2, padTo60, List.take_of_length_le hl]
  exact ⟨_, rfl⟩
theorem body_open {r : Rc} (h : rcOk r = true) (i : Nat) : openOk (sealS (bodyR r i)) = true ∧ textP (sealS (bodyR r i)) = pieceL r i := by
  obtain ⟨k1, f1, f2, f3, f4, f5, f6⟩ := rcOk_bounds h
  have hl := bodyR_len r i
  obtain ⟨o1, o2⟩ := open_seal hl
  refine ⟨o1, ?_⟩
  unfold textP
  rw [o2, padTo60, List.take_of_length_le hl]
  have e : bodyR r i = (nb 1 66 ++ (nb 1 (i : Int) ++ (nb 1 r.kind ++ (nb 4 r.attempt ++ nb 4 r.epoch)))) ++ tx (pieceL r i) := by
    simp only [bodyR, List.append_assoc]
  rw [e, List.append_assoc, List.drop_left' (by simp [nb_length, wid_1, wid_4])]
  rw [pText_tx (by have := pieceL_len r i; omega)]
theorem pieces_all (r : Rc) : ∀ n, (List.range n).flatMap (pieceL r) = r.share.take (n * 48)
  | 0 => by simp
  | n + 1 => by
    rw [List.range_succ, List.flatMap_append, pieces_all r n, List.flatMap_cons, List.flatMap_nil, List.append_nil, pieceL, Nat.add_mul, Nat.one_mul]
    exact (List.take_add ..).symm
theorem share_put {r : Rc} (h : rcOk r = true) : shareG ((List.range (bodiesN r.share.length)).map fun i => sealS (bodyR r i)) = r.share := by
  unfold shareG
  rw [if_pos]
  · rw [List.flatMap_map]
    have e : (List.range (bodiesN r.share.length)).flatMap (fun i => textP (sealS (bodyR r i))) = (List.range (bodiesN r.share.length)).flatMap (pieceL r) := flatMap_congr' fun i _ => (body_open h i).2
    rw [e, pieces_all, List.take_of_length_le]
    unfold bodiesN; omega
  · rw [List.all_eq_true]
    intro x hx
    obtain ⟨i, _, rfl⟩ := List.mem_map.1 hx
    exact (body_open h i).1
theorem putR_len (r : Rc) : (putR r).length = 1 + bodiesN r.share.length := by
  simp [putR]; omega
theorem putR_con {m x : Rc} (h : m.con = x.con) : putR m = putR x := by
  simp only [Rc.con, Prod.mk.injEq, List.cons.injEq, and_true] at h
  obtain ⟨⟨h1, h2, h3, h4, h5⟩, h6, h7⟩ := h
  simp only [putR, headR, bodyR, pieceL, h1, h2, h3, h4, h5, h6, h7]
/-- What the sectors begin with says the record. -/
theorem put_says {r : Rc} {ss : List (List UInt8)} (h : rcOk r = true) (hp : putR r <+: ss) : ∃ s0 rest, ss = s0 :: rest ∧ openOk s0 = true ∧ headR r <+: openP s0 ∧ bodiesN r.share.length ≤ rest.length ∧ shareG (rest.take (bodiesN r.share.length)) = r.share := by
  obtain ⟨t, ht⟩ := hp
  refine ⟨sealS (headR r), ((List.range (bodiesN r.share.length)).map fun i => sealS (bodyR r i)) ++ t, by rw [← ht]; rfl, (head_open h).1, (head_open h).2, by simp, ?_⟩
  rw [List.take_left' (by simp)]
  exact share_put h
abbrev zeroRc : Rc := ⟨0, ⟨#[]⟩, 0, 0, 0, 0, .slice none 0 0, []⟩
def GotR (ss : List (List UInt8)) (M : Rc) (n : Nat) (ok : Bool) : Prop := (ok = true ∧ rcOk M = true ∧ putR M <+: ss ∧ n = (putR M).length) ∨ (ok = false ∧ M.con = zeroRc.con ∧ n = 0 ∧ ∀ r, rcOk r = true → ¬ putR r <+: ss)
theorem put_one {r x : Rc} {ss : List (List UInt8)} (hr : rcOk r = true) (hx : rcOk x = true) (h1 : putR r <+: ss) (h2 : putR x <+: ss) : r.con = x.con := by
  obtain ⟨s0, rest, e1, _, p1, _, g1⟩ := put_says hr h1
  obtain ⟨s1, rest1, e2, _, p2, _, g2⟩ := put_says hx h2
  rw [e1] at e2
  obtain ⟨rfl, rfl⟩ := List.cons.inj e2
  obtain ⟨a1, ⟨t1, a2⟩, a3, a4, a5, a6, a7⟩ := head_parse hr p1 rfl rfl rfl rfl rfl rfl rfl
  obtain ⟨b1, ⟨t2, b2⟩, b3, b4, b5, b6, b7⟩ := head_parse hx p2 rfl rfl rfl rfl rfl rfl rfl
  have hl : r.share.length = x.share.length := a7.symm.trans b7
  rw [hl] at g1
  have hs : r.share = x.share := g1.symm.trans g2
  have hn : r.name = x.name := by
    have n1 := name_parse (rcOk_bounds hr).1 a2
    have n2 := name_parse (rcOk_bounds hx).1 b2
    have e := n1.1.symm.trans n2.1
    have e2 := congrArg Prod.fst (n1.2.symm.trans n2.2)
    simp only at e2
    rw [e] at e2
    have e3 := List.append_cancel_right e2
    have : r.name.data = x.name.data := by
      apply Array.ext'
      exact e3
    cases hrn : r.name; cases hxn : x.name
    rw [hrn, hxn] at this
    simp only at this
    rw [this]
  simp only [Rc.con, Prod.mk.injEq, List.cons.injEq, and_true]
  exact ⟨⟨by omega, by omega, by omega, by omega, by omega⟩, hn, hs⟩
theorem GotR.one {ss : List (List UInt8)} {M M' : Rc} {n n' : Nat} {ok ok' : Bool} (h : GotR ss M n ok) (h' : GotR ss M' n' ok') : M.con = M'.con ∧ n = n' ∧ ok = ok' := by
  rcases h with ⟨rfl, h1, h2, h3⟩ | ⟨rfl, h1, h2, h3⟩ <;> rcases h' with ⟨rfl, k1, k2, k3⟩ | ⟨rfl, k1, k2, k3⟩
  · have e := put_one h1 k1 h2 k2
    exact ⟨e, by rw [h3, k3, putR_con e], rfl⟩
  · exact absurd h2 (k3 _ h1)
  · exact absurd k2 (h3 _ k1)
  · exact ⟨h1.trans k1.symm, by rw [h2, k2], rfl⟩
end Sh
/- sherdref20.Put. -/
set_option linter.unusedVariables false
set_option linter.unusedSimpArgs false
namespace Sh
open Go Go.RowKit Go.Proofs
attribute [local go_sem ↓] Go.wp_at_zero Go.wp_at_succ
set_option maxHeartbeats 1000000
set_option maxRecDepth 100000

def rowsR (o : Value) (q : List (Value × List UInt8)) (L : Asrt) : Asrt := star (row tBytes 1 o q.length (q.map Prod.fst)) (star (bytesAll q) L)
def putN (r : Rc) (n : Nat) : List (List UInt8) := sealS (headR r) :: (List.range n).map fun i => sealS (bodyR r i)
set_option maxHeartbeats 8000000
theorem rrecPut_ok {w : World} {R : Snap} {L : Asrt} (r : Rc) (H : Holds w R L) (hr : r.Rd R.cell?) (hz : r.Sz) (hok : rcOk r = true) :
    Calls Try.prog 83 #[.agg r.cells.toArray] w fun e w' => ∃ o q, e = .returned o ∧ q.map Prod.snd = putR r ∧ Holds w' R (rowsR o q L) := by
  obtain ⟨k1, f1, f2, f3, f4, f5, f6⟩ := rcOk_bounds hok
  have HOK := Hid.mk' hok
  obtain ⟨kind, name, attempt, epoch, mark, size, vs, share⟩ := r
  obtain ⟨z1, z2⟩ := hz
  have hs := hr
  simp only [Rc.Rd] at z1 z2 hs
  obtain ⟨as_, cs_, rfl⟩ := hs.form
  simp only at k1 f1 f2 f3 f4 f5 f6
  have K1 := Hid.mk' k1
  have hnl := nameB_len k1
  obtain ⟨N, hN⟩ : ∃ N, N = share.length := ⟨_, rfl⟩
  have HSB : Hid (RdB R.cell? (.slice as_ N cs_) share) := Hid.mk' (by rw [hN]; exact hs)
  have HN := Hid.mk' hN
  have hcs := (Rd.bounds hs).1
  have hcx := (Rd.bounds hs).2.1
  obtain ⟨HD, hHD⟩ : ∃ HD, HD = sealS (headR (⟨kind, name, attempt, epoch, mark, size, .slice as_ share.length cs_, share⟩ : Rc)) := ⟨_, rfl⟩
  have HHD := Hid.mk' hHD
  obtain ⟨PT, hPT⟩ : ∃ PT : Nat → List (List UInt8), PT = putN (⟨kind, name, attempt, epoch, mark, size, .slice as_ share.length cs_, share⟩ : Rc) := ⟨_, rfl⟩
  have HPT := Hid.mk' hPT
  have HPR : Hid (putR (⟨kind, name, attempt, epoch, mark, size, .slice as_ share.length cs_, share⟩ : Rc) = PT (bodiesN N)) := Hid.mk' (by rw [hPT, putN, putR, hN])
  rw [HPR.out]
  have HBD : Hid (∀ j, nb 1 66 ++ nb 1 (j : Nat) ++ nb 1 kind ++ nb 4 attempt ++ nb 4 epoch ++ tx (pieceL (⟨kind, name, attempt, epoch, mark, size, .slice as_ share.length cs_, share⟩ : Rc) j) = bodyR (⟨kind, name, attempt, epoch, mark, size, .slice as_ share.length cs_, share⟩ : Rc) j) := Hid.mk' (fun j => by simp only [bodyR, List.append_assoc])
  have HHR : Hid (∀ x, x = nb 1 72 ++ nb 1 kind ++ nameB name ++ nb 4 attempt ++ nb 4 epoch ++ nb 4 mark ++ nb 2 size ++ nb 1 (N : Int) → sealS x = HD) := Hid.mk' (fun x hx => by rw [hx, hHD, hN]; simp only [headR, List.append_assoc])
  have HPC : Hid (∀ j, pieceL (⟨kind, name, attempt, epoch, mark, size, .slice as_ share.length cs_, share⟩ : Rc) j = (share.drop (j * 48)).take 48) := Hid.mk' (fun _ => rfl)
  have hcl : ((⟨kind, name, attempt, epoch, mark, size, .slice as_ share.length cs_, share⟩ : Rc)).cells = [.int .i64 kind, .string name, .int .i64 attempt, .int .i64 epoch, .int .i64 mark, .int .i64 size, .slice as_ share.length cs_] := rfl
  rw [hcl]
  rw [← hN] at f5 hcs ⊢
  clear hok k1 hs hN hHD hPT z1 z2 hcl HOK
  obtain ⟨R1, le1, H1, hb⟩ := H.allocR (.cells #[.int .i64 kind, .string name, .int .i64 attempt, .int .i64 epoch, .int .i64 mark, .int .i64 size, .slice as_ N cs_] tRec (0, 0))
  clear H
  show Calls _ _ #[.agg #[.int .i64 kind, .string name, .int .i64 attempt, .int .i64 epoch, .int .i64 mark, .int .i64 size, .slice as_ N cs_]] _ _
  go_enter Try.func83, Try.ntmps83
  go_upto_region 1 with fail
  generalize (World.alloc ..) = w1 at H1 ⊢
  generalize w.heap.size = g at hb ⊢
  obtain ⟨l1, n1, c1⟩ := Holds.frzFacts (H1) hb
  have hkw : IntKind.u8.wrap kind = kind := by simp [IntKind.wrap, IntKind.signed, IntKind.bits]; omega
  have hk8 : ((UInt8.ofNat kind.toNat).toNat : Int) = kind := by
    rw [UInt8.toNat_ofNat']; omega
  have eT : [72, UInt8.ofNat kind.toNat] = nb 1 72 ++ nb 1 kind := by rw [nb_byte (by omega), nb_byte (by omega)]; rfl
  have hB2 : ∀ (w : World) (R : Snap) (L : Asrt) (b : Nat), Holds w R (star (blk b #[.int .u8 72, .int .u8 kind] tU8) L) → Holds w R (star (rowB (.slice (some ⟨b, 0, none⟩) 2 2) (nb 1 72 ++ nb 1 kind)) L) := fun _ _ _ _ H => by
    rw [← eT]
    refine blkB (n := 2) H _ ?_ rfl (by simp)
    show [Value.int .u8 72, Value.int .u8 kind] = [Value.int .u8 ((72 : UInt8).toNat : Int), Value.int .u8 ((UInt8.ofNat kind.toNat).toNat : Int)]
    rw [hk8]; rfl
  have HB2 := Hid.mk' hB2
  clear hB2 hk8 eT
  go_cut [3] (fun c wx => ∃ T0, T0 = nb 1 72 ++ nb 1 kind ++ nameB name ∧ Holds wx R1 (star (rowB c T0) L))
  case first =>
    have hln2 : (nb 1 72 ++ nb 1 kind).length + (nameB name).length ≤ 100000000 := by rw [hnl, List.length_append, nb_length, nb_length, wid_1]; decide
    have Ha := HB2.out _ _ _ _ (H1.drew.alloc #[.int .u8 72, .int .u8 kind] tU8)
    go_region_held3 (fun w' => (∀ o, w'.cell? ⟨g, o, none⟩ = #[.int .i64 kind, .string name, .int .i64 attempt, .int .i64 epoch, .int .i64 mark, .int .i64 size, .slice as_ N cs_][o]?)) (first | (exact H24.frz hb) | (exact H22.frz hb) | (exact H21.frz hb) | ((repeat' (first | assumption | (with_reducible refine And.intro ?_ ?_) | (with_reducible refine keep_drew ?_) | (with_reducible refine keep_drewN ?_) | (with_reducible refine keep_alloc ?_ (by first | assumption | (simp only [World.size_alloc, World.size_drew, World.size_setCell]; omega))) | (with_reducible refine keep_set ?_ (by first | assumption | omega)))))) (first | (go_at_call 160; first | (refine (lrput_spec Ha K1.out).mono ?_; rintro e w21 ⟨o21, rfl, H21⟩; have hr21 := H21.rowRd; have H22 := H21.swap) | (refine (lrput_spec H1.drew K1.out).mono ?_; rintro e w21 ⟨o21, rfl, H21⟩; have H22 := HB2.out _ _ _ _ (H21.alloc #[.int .u8 72, .int .u8 kind] tU8); have hr21 := H22.swap.rowRd)) | (refine step_appendB rfl _ _ (by rfl) (by rfl) (by rfl) H22 hr21 hln2 ?_; intro v24 w24 H24))
    all_goals
      go_wp2_with fail
      go_meet
      case rel => exact ⟨_, rfl, H24.drop2⟩
  clear H1 l1 n1 c1 hkw
  obtain ⟨T0, hT, H3⟩ := hcut
  have hlT0 : T0.length ≤ 19 := by rw [hT, List.length_append, List.length_append, hnl, nb_length, nb_length, wid_1]; omega
  have HT0 := Hid.mk' hT
  clear hT hnl
  rename_i w3

  obtain ⟨l1, n1, c1⟩ := Holds.frzFacts (H3) hb
  go_wp2_with fail
  refine (refnum_spec (k := 4) (n := attempt) H3 (by omega)).mono ?_
  rintro e w4 ⟨o4, rfl, H4⟩
  obtain ⟨ao, co, rfl⟩ := H4.rowRd.form
  have hrd : RdB w4.cell? (.slice ao (nb 4 attempt).length co) (nb 4 attempt) := H4.rowRd
  have hlk : (nb 4 attempt).length ≤ 4 := by rw [nb_length]; simp only [wid_1, wid_2, wid_4]; omega
  have H6 : Holds w4 R1 (star (rowB _ T0) (star (rowB _ (nb 4 attempt)) L)) := H4.swap
  clear H3 l1 n1 c1
  go_wp2_with (with_reducible refine stop_append ?_)
  refine Hold.go (wpList_appendB (l := T0) (k := nb 4 attempt) rfl _ _ rfl rfl rfl H6 hrd (by have h9 := hlk; omega) ?_)
  intro v5 w5 H5
  obtain ⟨T1, hT⟩ : ∃ T, T = T0 ++ nb 4 attempt := ⟨_, rfl⟩
  have hlT1 : T1.length ≤ 23 := by rw [hT, List.length_append]; omega
  rw [← hT] at H5
  have HT1 := Hid.mk' hT
  have H3 := H5.drop2
  clear hT hrd hlk H4 H6 H5 hlT0
  go_upto_region 3 with fail
  obtain ⟨l1, n1, c1⟩ := Holds.frzFacts (H3) hb
  go_wp2_with fail
  refine (refnum_spec (k := 4) (n := epoch) H3 (by omega)).mono ?_
  rintro e w4 ⟨o4, rfl, H4⟩
  obtain ⟨ao, co, rfl⟩ := H4.rowRd.form
  have hrd : RdB w4.cell? (.slice ao (nb 4 epoch).length co) (nb 4 epoch) := H4.rowRd
  have hlk : (nb 4 epoch).length ≤ 4 := by rw [nb_length]; simp only [wid_1, wid_2, wid_4]; omega
  have H6 : Holds w4 R1 (star (rowB _ T1) (star (rowB _ (nb 4 epoch)) L)) := H4.swap
  clear H3 l1 n1 c1
  go_wp2_with (with_reducible refine stop_append ?_)
  refine Hold.go (wpList_appendB (l := T1) (k := nb 4 epoch) rfl _ _ rfl rfl rfl H6 hrd (by have h9 := hlk; omega) ?_)
  intro v5 w5 H5
  obtain ⟨T2, hT⟩ : ∃ T, T = T1 ++ nb 4 epoch := ⟨_, rfl⟩
  have hlT2 : T2.length ≤ 27 := by rw [hT, List.length_append]; omega
  rw [← hT] at H5
  have HT2 := Hid.mk' hT
  have H3 := H5.drop2
  clear hT hrd hlk H4 H6 H5 hlT1
  go_upto_region 4 with fail
  obtain ⟨l1, n1, c1⟩ := Holds.frzFacts (H3) hb
  go_wp2_with fail
  refine (refnum_spec (k := 4) (n := mark) H3 (by omega)).mono ?_
  rintro e w4 ⟨o4, rfl, H4⟩
  obtain ⟨ao, co, rfl⟩ := H4.rowRd.form
  have hrd : RdB w4.cell? (.slice ao (nb 4 mark).length co) (nb 4 mark) := H4.rowRd
  have hlk : (nb 4 mark).length ≤ 4 := by rw [nb_length]; simp only [wid_1, wid_2, wid_4]; omega
  have H6 : Holds w4 R1 (star (rowB _ T2) (star (rowB _ (nb 4 mark)) L)) := H4.swap
  clear H3 l1 n1 c1
  go_wp2_with (with_reducible refine stop_append ?_)
  refine Hold.go (wpList_appendB (l := T2) (k := nb 4 mark) rfl _ _ rfl rfl rfl H6 hrd (by have h9 := hlk; omega) ?_)
  intro v5 w5 H5
  obtain ⟨T3, hT⟩ : ∃ T, T = T2 ++ nb 4 mark := ⟨_, rfl⟩
  have hlT3 : T3.length ≤ 31 := by rw [hT, List.length_append]; omega
  rw [← hT] at H5
  have HT3 := Hid.mk' hT
  have H3 := H5.drop2
  clear hT hrd hlk H4 H6 H5 hlT2
  go_upto_region 5 with fail
  obtain ⟨l1, n1, c1⟩ := Holds.frzFacts (H3) hb
  go_wp2_with fail
  refine (refnum_spec (k := 2) (n := size) H3 (by omega)).mono ?_
  rintro e w4 ⟨o4, rfl, H4⟩
  obtain ⟨ao, co, rfl⟩ := H4.rowRd.form
  have hrd : RdB w4.cell? (.slice ao (nb 2 size).length co) (nb 2 size) := H4.rowRd
  have hlk : (nb 2 size).length ≤ 4 := by rw [nb_length]; simp only [wid_1, wid_2, wid_4]; omega
  have H6 : Holds w4 R1 (star (rowB _ T3) (star (rowB _ (nb 2 size)) L)) := H4.swap
  clear H3 l1 n1 c1
  go_wp2_with (with_reducible refine stop_append ?_)
  refine Hold.go (wpList_appendB (l := T3) (k := nb 2 size) rfl _ _ rfl rfl rfl H6 hrd (by have h9 := hlk; omega) ?_)
  intro v5 w5 H5
  obtain ⟨T4, hT⟩ : ∃ T, T = T3 ++ nb 2 size := ⟨_, rfl⟩
  have hlT4 : T4.length ≤ 35 := by rw [hT, List.length_append]; omega
  rw [← hT] at H5
  have HT4 := Hid.mk' hT
  have H3 := H5.drop2
  clear hT hrd hlk H4 H6 H5 hlT3
  go_upto_region 6 with fail
  obtain ⟨l1, n1, c1⟩ := Holds.frzFacts (H3) hb
  go_wp2_with (with_reducible refine stop_append ?_)
  have hk8 : ((UInt8.ofNat (N : Int).toNat).toNat : Int) = (N : Int) := by
    rw [UInt8.toNat_ofNat']; omega
  have H4 := H3.alloc #[.int .u8 (N : Int)] tU8
  have H5 := blkB (n := 1) H4 [UInt8.ofNat (N : Int).toNat] (by
    show [Value.int .u8 (N : Int)] = [Value.int .u8 ((UInt8.ofNat (N : Int).toNat).toNat : Int)]
    rw [hk8]) rfl (by simp)
  rw [← nb_byte (by omega)] at H5
  have hrd := H5.rowRd
  refine Hold.go (wpList_appendB (l := T4) (k := nb 1 (N : Int)) rfl _ _ rfl rfl rfl H5.swap hrd (by rw [nb_length, wid_1]; omega) ?_)
  intro v6 w6 H6
  obtain ⟨T5, hT⟩ : ∃ T, T = T4 ++ nb 1 (N : Int) := ⟨_, rfl⟩
  have hlT5 : T5.length ≤ 60 := by rw [hT, List.length_append, nb_length, wid_1]; omega
  rw [← hT] at H6
  have HS5 : Hid (sealS T5 = HD) := Hid.mk' (HHR.out T5 (by rw [hT, HT4.out, HT3.out, HT2.out, HT1.out, HT0.out]))
  obtain ⟨R2, le2, H7, hr7⟩ := H6.drop2.freezeRow
  replace hb := le2.blk _ _ hb
  have leA := le1.trans le2
  clear hT hrd H3 H4 H5 H6 hk8 hlT4 l1 n1 c1 HT0 HT1 HT2 HT3 HT4
  go_upto_region 7 with fail
  go_wp2_with fail
  refine (rsseal_spec H7 hr7 hlT5).mono ?_
  rintro e w8 ⟨o8, rfl, H8⟩
  rw [HS5.out] at H8
  obtain ⟨a8, c8, rfl⟩ := H8.rowRd.form
  have H9 : Holds _ R2 (star (row tBytes 1 (.slice (some ⟨w8.heap.size, 0, none⟩) 1 1) 1 [.slice a8 HD.length c8]) (star (rowB (.slice a8 HD.length c8) HD) L)) := (H8.alloc #[.slice a8 HD.length c8] tBytes).toRow 1 1 1 (Nat.le_refl _) (by decide) rfl
  clear H7 H8 hr7 hlT5 HS5
  go_upto_region 8 with fail
  generalize (World.alloc ..) = w9 at H9 ⊢
  generalize w8.heap.size = g8 at H9 ⊢
  have HPT0 : Hid (PT 0 = [HD]) := Hid.mk' (by rw [HPT.out, putN, HHD.out]; rfl)
  have HPTS : Hid (∀ j, PT (j + 1) = PT j ++ [sealS (bodyR (⟨kind, name, attempt, epoch, mark, size, .slice as_ share.length cs_, share⟩ : Rc) j)]) := Hid.mk' (fun j => by rw [HPT.out, putN, putN, List.range_succ, List.map_append]; rfl)
  go_wp2_with fail
  go_loopw [4, 5] (fun s4 i wx => ∃ (j a : Nat) (R3 : Snap) (o : Value) (q : List (Value × List UInt8)), i = .int .i64 (a : Int) ∧ a = 48 * j ∧ j ≤ bodiesN N ∧ s4 = o ∧ q.map Prod.snd = PT j ∧ q.length = 1 + j ∧ R2.le R3 ∧ Holds wx R3 (rowsR o q L)) (fun _ i _ => 1000 - (intOf i).toNat)
  case atStart => exact ⟨0, 0, R2, _, [(.slice a8 HD.length c8, HD)], rfl, rfl, Nat.zero_le _, rfl, by rw [HPT0.out]; rfl, rfl, Snap.le.refl _, by
    unfold rowsR
    rw [bytesAll_one]
    exact H9⟩
  case round =>
    clear H9
    obtain ⟨j, a, R3, o, q, rfl, ha, hj, rfl, hq, hql, le3, H10⟩ := hrel
    have hb3 := le3.blk _ _ hb
    obtain ⟨l1, n1, c1⟩ := Holds.frzFacts (H10) hb3
    by_cases hlt : a < N
    · have d1 : decide ((a : Int) < (N : Int)) = true := by simp; omega
      have hjb : j + 1 ≤ bodiesN N := by unfold bodiesN; omega
      have hj5 : j ≤ 4 := by omega
      obtain ⟨e, he⟩ : ∃ e, e = min (a + 48) N := ⟨_, rfl⟩
      have HQ := Hid.mk' hq
      have HA := Hid.mk' ha
      have HE := Hid.mk' he
      have HJB := Hid.mk' hjb
      clear hq ha hjb hj he
      go_upto_region 11 with fail
      go_cut [6] from 46 to 97 (fun c wx => c = .int .i64 ((a : Int) + 48) ∧ wx = wr)
      case first =>
        go_wp2_with fail
        go_meet
        case rel => exact ⟨rfl, rfl⟩
      obtain ⟨rfl, rfl⟩ := hcut
      rename_i K9 hK9
      refine hK9 _ _ ?_
      clear hK9 K9
      refine wp_seq_k (fun K9 hK9 => ?_)
      go_cut [6] from 46 to 97 (fun c wx => c = .int .i64 (e : Int) ∧ wx = wc)
      case first =>
        by_cases h48 : N < a + 48
        · have t1 : decide ((N : Int) < (a : Int) + 48) = true := decide_eq_true (by omega)
          have he2 : N = e := by rw [HE.out]; exact (Nat.min_eq_right (by omega)).symm
          have t1n : decide (N < a + 48) = true := decide_eq_true h48
          have HE2 := Hid.mk' he2
          clear h48 he2
          go_wp2_with fail
          go_meet
          case rel => exact ⟨by rw [HE2.out], rfl⟩
        · have t1 : decide ((N : Int) < (a : Int) + 48) = false := decide_eq_false (by omega)
          have he2 : e = a + 48 := by rw [HE.out]; exact Nat.min_eq_left (by omega)
          have t1n : decide (N < a + 48) = false := decide_eq_false h48
          have HE2 := Hid.mk' he2
          clear h48 he2
          go_wp2_with fail
          go_meet
          case rel => exact ⟨by rw [HE2.out]; go_num, rfl⟩
      obtain ⟨rfl, rfl⟩ := hcut
      refine hK9 _ _ ?_
      clear hK9 K9
      refine wp_seq_k (fun K9 hK9 => ?_)
      have ha := HA.out
      have hat : attempt ≤ 9223372036854775807 := by omega
      have hB3 : ∀ (w : World) (R : Snap) (L : Asrt) (b : Nat), Holds w R (star (blk b #[.int .u8 66, .int .u8 (j : Int), .int .u8 kind] tU8) L) → Holds w R (star (rowB (.slice (some ⟨b, 0, none⟩) 3 3) (nb 1 66 ++ nb 1 (j : Nat) ++ nb 1 kind)) L) := fun _ _ _ _ H => by
        have hk8 : ((UInt8.ofNat kind.toNat).toNat : Int) = kind := by
          rw [UInt8.toNat_ofNat']; omega
        have hj8 : ((UInt8.ofNat (j : Int).toNat).toNat : Int) = (j : Int) := by
          rw [UInt8.toNat_ofNat']; omega
        have eT : [66, UInt8.ofNat (j : Int).toNat, UInt8.ofNat kind.toNat] = nb 1 66 ++ nb 1 (j : Nat) ++ nb 1 kind := by rw [nb_byte (by omega), nb_byte (by omega), nb_byte (by omega)]; rfl
        rw [← eT]
        refine blkB (n := 3) H _ ?_ rfl (by simp)
        show [Value.int .u8 66, Value.int .u8 (j : Int), Value.int .u8 kind] = [Value.int .u8 ((66 : UInt8).toNat : Int), Value.int .u8 ((UInt8.ofNat (j : Int).toNat).toNat : Int), Value.int .u8 ((UInt8.ofNat kind.toNat).toNat : Int)]
        rw [hk8, hj8]; rfl
      have HB3 := Hid.mk' hB3
      clear hB3 ha
      obtain ⟨LL, hLL⟩ : ∃ A, A = rowsR u4 q L := ⟨_, rfl⟩
      rw [← hLL] at H10
      have HLL := Hid.mk' hLL
      clear hLL
      have h4 : (nb 4 attempt).length = 4 := by rw [nb_length, wid_4]
      have hq1 : ((a : Nat) : Int).tdiv 48 = (j : Int) := by have ha := HA.out; rw [Int.tdiv_eq_ediv_of_nonneg (by omega)]; omega
      have hq2 : IntKind.i64.wrap (j : Int) = (j : Int) := IntWalk.i64_in _ (by omega)
      have hq3 : IntKind.u8.wrap (j : Int) = (j : Int) := by simp [IntKind.wrap, IntKind.signed, IntKind.bits]; omega
      have hkw : IntKind.u8.wrap kind = kind := by simp [IntKind.wrap, IntKind.signed, IntKind.bits]; omega
      go_cut [7] from 46 to 97 (fun c wx => ∃ U0, U0 = nb 1 66 ++ nb 1 (j : Nat) ++ nb 1 kind ++ nb 4 attempt ∧ Holds wx R3 (star (rowB c U0) LL))
      case first =>
        have hln2 : (nb 1 66 ++ nb 1 (j : Nat) ++ nb 1 kind).length + (nb 4 attempt).length ≤ 100000000 := by rw [h4, List.length_append, List.length_append, nb_length, nb_length, nb_length, wid_1]; decide
        clear f1 f2 f3 f4 f5 f6 hcs hcx hlt d1 hj5 hql h4 HE HA HJB HQ HLL HPT HPTS HPT0 HBD HHR HPC HHD HN HSB K1 HPR
        have Ha := HB3.out _ _ _ _ (H10.drew.alloc #[.int .u8 66, .int .u8 (j : Int), .int .u8 kind] tU8)
        go_region_held3 (fun w' => (∀ o, w'.cell? ⟨g, o, none⟩ = #[.int .i64 kind, .string name, .int .i64 attempt, .int .i64 epoch, .int .i64 mark, .int .i64 size, .slice as_ N cs_][o]?)) (first | assumption | (exact H24.frz hb3) | (exact H22.frz hb3) | (exact H21.frz hb3) | (exact Ha.frz hb3) | (exact H10.drew.frz hb3) | ((repeat' (first | assumption | (with_reducible refine And.intro ?_ ?_) | (with_reducible refine keep_drew ?_) | (with_reducible refine keep_drewN ?_) | (with_reducible refine keep_alloc ?_ (by first | assumption | (simp only [World.size_alloc, World.size_drew, World.size_setCell]; omega))) | (with_reducible refine keep_set ?_ (by first | assumption | omega)))))) (first | (go_at_call 133; first | (refine (refnum_spec (k := 4) (n := attempt) Ha hat).mono ?_; rintro e w21 ⟨o21, rfl, H21⟩; have hr21 := H21.rowRd; have H22 := H21.swap) | (refine (refnum_spec (k := 4) (n := attempt) H10.drew hat).mono ?_; rintro e w21 ⟨o21, rfl, H21⟩; have H22 := HB3.out _ _ _ _ (H21.alloc #[.int .u8 66, .int .u8 (j : Int), .int .u8 kind] tU8); have hr21 := H22.swap.rowRd)) | (refine step_appendB rfl _ _ (by rfl) (by rfl) (by rfl) H22 hr21 hln2 ?_; intro v24 w24 H24))
        all_goals
          go_wp2_with fail
          go_meet
          case rel => exact ⟨_, rfl, H24.drop2⟩
      clear H10 l1 n1 c1 hkw hq1 hq2 hq3 hat
      obtain ⟨U0, hT, H3⟩ := hcut
      have hlU0 : U0.length ≤ 7 := by rw [hT, List.length_append, List.length_append, List.length_append, h4, nb_length, nb_length, nb_length, wid_1]; omega
      have HU0 := Hid.mk' hT
      clear hT h4
      refine hK9 _ _ ?_
      clear hK9 K9

      obtain ⟨l1, n1, c1⟩ := Holds.frzFacts (H3) hb3
      go_wp2_with fail
      refine (refnum_spec (k := 4) (n := epoch) H3 (by omega)).mono ?_
      rintro e w4 ⟨o4, rfl, H4⟩
      obtain ⟨ao, co, rfl⟩ := H4.rowRd.form
      have hrd : RdB w4.cell? (.slice ao (nb 4 epoch).length co) (nb 4 epoch) := H4.rowRd
      have hlk : (nb 4 epoch).length ≤ 4 := by rw [nb_length]; simp only [wid_1, wid_2, wid_4]; omega
      have H6 : Holds w4 R3 (star (rowB _ U0) (star (rowB _ (nb 4 epoch)) LL)) := H4.swap
      clear H3 l1 n1 c1
      go_wp2_with (with_reducible refine stop_append ?_)
      refine Hold.go (wpList_appendB (l := U0) (k := nb 4 epoch) rfl _ _ rfl rfl rfl H6 hrd (by have h9 := hlk; omega) ?_)
      intro v5 w5 H5
      obtain ⟨U1, hT⟩ : ∃ T, T = U0 ++ nb 4 epoch := ⟨_, rfl⟩
      have hlU1 : U1.length ≤ 11 := by rw [hT, List.length_append]; omega
      rw [← hT] at H5
      have HU1 := Hid.mk' hT
      have H3 := H5.drop2
      clear hT hrd hlk H4 H6 H5 hlU0
      go_upto_region 16 with fail
      have he1 : a < e ∧ e ≤ N ∧ e ≤ a + 48 := by have := HE.out; omega
      obtain ⟨d, hd⟩ : ∃ d, d = e - a := ⟨_, rfl⟩
      have hd1 : (e : Int) - (a : Int) = (d : Int) := by omega
      have hd48 : d ≤ 48 := by omega
      have hdw : IntKind.u8.wrap (d : Int) = (d : Int) := by simp [IntKind.wrap, IntKind.signed, IntKind.bits]; omega
      have hdw2 : IntKind.i64.wrap (d : Int) = (d : Int) := IntWalk.i64_in _ (by omega)
      have HDD := Hid.mk' hd
      have HE1 := Hid.mk' he1
      clear hd he1
      go_wp2_with (with_reducible refine stop_append ?_)
      have hk8 : ((UInt8.ofNat (d : Int).toNat).toNat : Int) = (d : Int) := by
        rw [UInt8.toNat_ofNat']; omega
      have H4 := H3.alloc #[.int .u8 (d : Int)] tU8
      have H5 := blkB (n := 1) H4 [UInt8.ofNat (d : Int).toNat] (by
        show [Value.int .u8 (d : Int)] = [Value.int .u8 ((UInt8.ofNat (d : Int).toNat).toNat : Int)]
        rw [hk8]) rfl (by simp)
      rw [← nb_byte (by omega)] at H5
      have hrd := H5.rowRd
      refine Hold.go (wpList_appendB (l := U1) (k := nb 1 (d : Int)) rfl _ _ rfl rfl rfl H5.swap hrd (by rw [nb_length, wid_1]; omega) ?_)
      intro v6 w6 H6
      obtain ⟨U2, hT⟩ : ∃ T, T = U1 ++ nb 1 (d : Int) := ⟨_, rfl⟩
      have hlU2 : U2.length ≤ 12 := by rw [hT, List.length_append, nb_length, wid_1]; omega
      rw [← hT] at H6
      have HU2 := Hid.mk' hT
      have H7 := H6.drop2
      clear hT hrd H3 H4 H5 H6 hk8 hlU1 hd1 hdw hdw2
      go_upto_region 17 with fail
      obtain ⟨l1, n1, c1⟩ := Holds.frzFacts (H7) hb3
      have he1 := HE1.out
      have hpr : RdB R3.cell? (.slice (adr as_ cs_ a 1) (e - a) (cs_ - a)) (pieceL (⟨kind, name, attempt, epoch, mark, size, .slice as_ share.length cs_, share⟩ : Rc) j) := by
        have h1 : RdB R.cell? (.slice as_ share.length cs_) share := by rw [← HN.out]; exact HSB.out
        have h2 := RdB.sub h1 a e cs_ (by omega) (by rw [← HN.out]; omega) (by omega) (Nat.le_refl _)
        have h4 : (share.drop a).take (e - a) = pieceL (⟨kind, name, attempt, epoch, mark, size, .slice as_ share.length cs_, share⟩ : Rc) j := by
          rw [HPC.out, HA.out, Nat.mul_comm 48 j]
          have ha := HA.out
          have he := HE.out
          by_cases h : a + 48 ≤ N
          · congr 1; omega
          · rw [List.take_of_length_le (by rw [List.length_drop, ← HN.out]; omega), List.take_of_length_le (by rw [List.length_drop, ← HN.out]; omega)]
        rw [h4] at h2
        exact Rd.le h2 (leA.trans le3)
      have hpl : (pieceL (⟨kind, name, attempt, epoch, mark, size, .slice as_ share.length cs_, share⟩ : Rc) j).length = d := by
        rw [HPC.out, List.length_take, List.length_drop, ← HN.out, HDD.out]
        have ha := HA.out
        have he := HE.out
        omega
      have i1 : (0 : Int) ≤ (a : Int) := by omega
      have i2 : (a : Int) ≤ (e : Int) := by omega
      have i3 : (e : Int) ≤ (cs_ : Int) := by omega
      have HPR2 := Hid.mk' hpr
      have HPL := Hid.mk' hpl
      clear hpr hpl he1
      go_wp2_with (with_reducible refine stop_append ?_)
      refine Hold.go (wpList_appendB (l := U2) (k := pieceL (⟨kind, name, attempt, epoch, mark, size, .slice as_ share.length cs_, share⟩ : Rc) j) rfl _ _ rfl rfl rfl H7 (Rd.world HPR2.out H7) (by rw [HPL.out]; omega) ?_)
      intro v8 w8 H8
      obtain ⟨U3, hT⟩ : ∃ T, T = U2 ++ pieceL (⟨kind, name, attempt, epoch, mark, size, .slice as_ share.length cs_, share⟩ : Rc) j := ⟨_, rfl⟩
      have hlU3 : U3.length ≤ 60 := by rw [hT, List.length_append, HPL.out]; omega
      rw [← hT] at H8
      have HU3 : Hid (U3 = bodyR (⟨kind, name, attempt, epoch, mark, size, .slice as_ share.length cs_, share⟩ : Rc) j) := Hid.mk' (by
        rw [hT, HU2.out, HU1.out, HU0.out, ← HBD.out, tx, HPL.out, List.take_of_length_le (by rw [HPL.out]; omega), Nat.min_eq_left (by omega)]
        simp only [List.append_assoc])
      obtain ⟨R4, le4, H9, hr9⟩ := H8.freezeRow
      clear hT H7 H8 l1 n1 c1 hlU2 i1 i2 i3
      go_upto_region 18 with fail
      go_wp2_with fail
      refine (rsseal_spec H9 hr9 hlU3).mono ?_
      rintro e10 w10 ⟨o10, rfl, H10⟩
      rw [HU3.out, HLL.out] at H10
      obtain ⟨a10, c10, rfl⟩ := H10.rowRd.form
      obtain ⟨SB, hSB⟩ : ∃ S, S = sealS (bodyR (⟨kind, name, attempt, epoch, mark, size, .slice as_ share.length cs_, share⟩ : Rc) j) := ⟨_, rfl⟩
      rw [← hSB] at H10 ⊢
      have HSB2 := Hid.mk' hSB
      clear hSB H9 hr9 hlU3
      go_wp2_with (with_reducible refine stop_append ?_)
      have H11 := H10.alloc #[.slice a10 SB.length c10] tBytes
      have hr11 : Rd _ 1 _ 1 _ := (H11.toRow 1 1 1 (Nat.le_refl _) (by simp [maxLen]) rfl).rowRd
      unfold rowsR at H11
      have H12 := H11.drop.swap
      have hq10 : q.length ≤ 10 := by omega
      refine Hold.go (wpList_append rfl _ _ rfl undSecs infoBytes rfl (by decide) rfl rfl H12 hr11 (by simp [Value.oneCell']) (by simp only [maxLen]; omega) (by omega) ?_)
      intro v13 w13 H13
      clear H10 H11 H12 hr11
      go_wp2_with fail
      go_roundw
      case rel =>
        refine ⟨j + 1, a + 48, R4, v13, q ++ [(.slice a10 SB.length c10, SB)], by go_num, by have := HA.out; omega, HJB.out, rfl, ?_, ?_, le3.trans le4, ?_⟩
        · rw [List.map_append, HQ.out, HPTS.out, HSB2.out]; rfl
        · rw [List.length_append, hql]; simp; omega
        · unfold rowsR
          simp only [List.map_append, List.length_append, List.length_singleton, List.map_cons, List.map_nil, bytesAll_append, bytesAll_one]
          exact H13.ac (by ac_rfl)
      case measure => simp [intOf]; omega
    · have d1 : decide ((a : Int) < (N : Int)) = false := by simp; omega
      have hjj : j = bodiesN N := by unfold bodiesN at hj ⊢; omega
      have HJJ := Hid.mk' hjj
      have HQ := Hid.mk' hq
      clear hq hjj hj ha hql
      go_wp2_with fail
      go_ret
      exact ⟨_, q, rfl, by rw [HQ.out, HJJ.out], H10.weaken (leA.trans le3)⟩
end Sh
