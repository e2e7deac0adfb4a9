/- The packer's reference (sherdref06): contracts. -/
import Derived.Test.YtmogagcffebbaaaPackRd
set_option linter.unusedVariables false
set_option linter.unusedSimpArgs false
namespace Sh
open Go Go.RowKit Go.Proofs
attribute [local go_sem ↓] Go.wp_at_zero Go.wp_at_succ
set_option maxHeartbeats 1000000
set_option maxRecDepth 100000

theorem rwidth_spec (k : Int) (w : World) : Calls Try.prog 190 #[.int .i64 k] w fun e w' => e = .returned (.int .i64 (wid k)) ∧ w = w' := by
  by_cases h1 : k < 1
  · go_enter Try.func190, Try.ntmps190
    go_wp2_with fail
    go_ret
    exact ⟨ret_int (by unfold wid; omega), rfl⟩
  · by_cases h2 : 4 < k
    · go_enter Try.func190, Try.ntmps190
      go_wp2_with fail
      go_ret
      exact ⟨ret_int (by unfold wid; omega), rfl⟩
    · go_enter Try.func190, Try.ntmps190
      go_wp2_with fail
      go_ret
      exact ⟨ret_int (by unfold wid; omega), rfl⟩

theorem be_drop (k n i : Nat) (h : i < k) : (be k n).drop i = UInt8.ofNat (n / 256 ^ (k - 1 - i)) :: (be k n).drop (i + 1) := by
  rw [List.drop_eq_getElem_cons (by rw [be_length]; exact h)]
  simp [be]
theorem refnum_spec {w : World} {R : Snap} {L : Asrt} {k n : Int} (H : Holds w R L) (hn : n ≤ 9223372036854775807) :
    Calls Try.prog 133 #[.int .i64 k, .int .i64 n] w fun e w' => ∃ v, e = .returned v ∧ Holds w' R (star (rowB v (nb k n)) L) := by
  obtain ⟨kk, hkk⟩ : ∃ kk, kk = wid k := ⟨_, rfl⟩
  obtain ⟨nn, hnn⟩ : ∃ nn : Nat, (nn : Int) = max n 0 := ⟨(max n 0).toNat, by omega⟩
  have HK := Hid.mk' hkk
  have HNN := Hid.mk' hnn
  have hk1 : 1 ≤ kk ∧ kk ≤ 4 := hkk ▸ wid_bd k
  obtain ⟨hk1, hk4⟩ := hk1
  have hn9 : nn ≤ 9223372036854775807 := by omega
  have hnb : nb k n = be kk nn := by unfold nb; rw [← hkk, ← hnn, Int.toNat_natCast]
  have HNB := Hid.mk' hnb
  go_enter Try.func133, Try.ntmps133
  go_wp2_with fail
  refine (rwidth_spec _ _).mono ?_
  rintro e w1 ⟨rfl, rfl⟩
  rw [← hkk]
  clear hkk hnb
  go_upto_if 10 with fail
  go_cut [1] (fun s1 wx => s1 = .int .i64 nn ∧ wx = w)
  case first =>
    go_wp2_with fail
    · go_meet
      case rel => exact ⟨by rw [show (nn : Int) = 0 by omega], rfl⟩
    · go_meet
      case rel => exact ⟨by rw [show (nn : Int) = n by omega], rfl⟩
  obtain ⟨rfl, rfl⟩ := hcut
  clear hnn
  go_wp2_with (with_reducible refine stop_make ?_)
  refine Hold.go (wpList_makeB rfl _ _ rfl rfl rfl H (by omega) ?_)
  intro v2 w2 H2
  obtain ⟨a2, c2, rfl⟩ := H2.rowRd.form
  simp only [rowB, List.length_replicate] at H2 ⊢
  go_wp2_with fail
  go_loopw [1, 6] (fun n i wr => ∃ j : Nat, i = .int .i64 ((j : Int) - 1) ∧ j ≤ kk ∧ n = .int .i64 ((nn / 256 ^ (kk - j) : Nat) : Int) ∧ Holds wr R (star (row tU8 1 (.slice a2 kk c2) kk (u8s (List.replicate j 0 ++ (be kk nn).drop j))) L)) (fun _ i _ => (intOf i + 1).toNat)
  case atStart => exact ⟨kk, rfl, Nat.le_refl _, by simp, by rw [List.drop_of_length_le (by rw [be_length]; omega), List.append_nil]; exact H2⟩
  case round =>
    obtain ⟨j, rfl, hj, rfl, H3⟩ := hrel
    cases j with
    | zero =>
      go_wp2_with fail
      go_ret
      have e := HNB.out
      rw [e]
      refine ⟨_, rfl, ?_⟩
      show Holds _ R (star (row tU8 1 _ (be kk nn).length _) L)
      rw [be_length]
      exact H3
    | succ t =>
      have e0 : ((t + 1 : Nat) : Int) - 1 = (t : Int) := by omega
      rw [e0]
      obtain ⟨g, cap, e1, hc, hg2, hcl, hfz⟩ := H3.rowAt (by omega)
      simp only [Value.slice.injEq, true_and] at e1
      obtain ⟨rfl, rfl⟩ := e1
      have ct := hcl t (.int .u8 0) (by
        rw [show (Value.int .u8 0) = .int .u8 ((0 : UInt8).toNat : Int) from rfl]
        have hlt : t < (List.replicate (t + 1) (0 : UInt8) ++ (be kk nn).drop (t + 1)).length := by simp; omega
        rw [u8s_get _ _ hlt, List.getElem_append_left (by simp)]; simp)
      clear hcl
      obtain ⟨y, hy⟩ : ∃ y, y = nn / 256 ^ (kk - (t + 1)) := ⟨_, rfl⟩
      rw [← hy]
      have hy9 : y ≤ 9223372036854775807 := by rw [hy]; exact Nat.le_trans (Nat.div_le_self _ _) hn9
      have HY := Hid.mk' hy
      clear hy e0
      go_wp2_with fail
      go_roundw
      case rel =>
        refine ⟨t, rfl, by omega, ?_, ?_⟩
        · have e : nn / 256 ^ (kk - t) = y / 256 := by
            rw [HY.out, Nat.div_div_eq_div_mul, ← Nat.pow_succ, show (kk - (t + 1)).succ = kk - t by omega]
          rw [e]; norm_cast
        · have h := row_write H3 t ((y : Int) % 256) (by omega) (by omega)
          have e2 : (List.replicate (t + 1) (0 : UInt8) ++ (be kk nn).drop (t + 1)).set t (UInt8.ofNat ((y : Int) % 256).toNat) = List.replicate t 0 ++ (be kk nn).drop t := by
            rw [be_drop kk nn t (by omega), List.replicate_succ', List.append_assoc, List.set_append_right _ _ (by rw [List.length_replicate]; exact Nat.le_refl _)]
            rw [List.length_replicate, Nat.sub_self, List.singleton_append, List.set_cons_zero]
            have e3 : UInt8.ofNat ((y : Int) % 256).toNat = UInt8.ofNat (nn / 256 ^ (kk - 1 - t)) := by
              rw [show kk - 1 - t = kk - (t + 1) by omega, ← HY.out]
              apply UInt8.toNat_inj.1
              rw [show ((y : Int) % 256).toNat = y % 256 by omega]
              simp
            rw [e3]
          rw [e2] at h
          exact h
      case measure => simp [intOf]
theorem nb_one (m : Nat) : nb 1 (m : Int) = [UInt8.ofNat m] := by
  have e : (max (m : Int) 0).toNat = m := by omega
  unfold nb; rw [e, show wid 1 = 1 from rfl]; simp [be]
def cutAt (b : List UInt8) (at_ : Nat) (bad : Bool) (n : Nat) : Nat := if cutOk (b.drop at_) bad n then at_ + n else b.length
theorem reftext_spec {w : World} {R : Snap} {L : Asrt} {v : Value} {b : List UInt8} (H : Holds w R L) (hr : RdB R.cell? v b) (hb : b.length ≤ 1000000) :
    Calls Try.prog 134 #[v] w fun e w' => ∃ v', e = .returned v' ∧ Holds w' R (star (rowB v' (nb 1 (min b.length 255 : Nat) ++ b.take 255)) L) := by
  obtain ⟨ab, cb, rfl⟩ := hr.form
  go_enter Try.func134, Try.ntmps134
  obtain ⟨m, hm⟩ : ∃ m, m = min b.length 255 := ⟨_, rfl⟩
  have hB := hr.bounds
  have hm9 : m ≤ 255 := by omega
  go_upto_if 5 with fail
  go_cut [0] (fun s0 wx => s0 = .slice ab m cb ∧ wx = w)
  case first =>
    have i1 : (255 : Int) ≤ cb ∨ b.length ≤ 255 := by omega
    go_wp2_with fail
    · go_meet
      case rel => exact ⟨by rw [show m = 255 by omega], rfl⟩
    · go_meet
      case rel => exact ⟨by rw [show m = b.length by omega], rfl⟩
  obtain ⟨rfl, rfl⟩ := hcut
  have hsub := RdB.pre hr m (by omega)
  have e1 : nb 1 (min b.length 255 : Nat) ++ b.take 255 = [UInt8.ofNat m] ++ b.take m := by
    rw [← hm, show b.take 255 = b.take m by rw [hm]; by_cases h : b.length ≤ 255 <;> simp [List.take_of_length_le, h, Nat.min_def]]
    rw [nb_one]
  have HE := Hid.mk' e1
  clear e1 hm
  have hw : IntKind.u8.wrap (m : Int) = ((UInt8.ofNat m).toNat : Int) := by rw [IntKind.wrap_u8]; simp
  have H2 := H.alloc #[.int .u8 ((UInt8.ofNat m).toNat : Int)] tU8
  have H3 := blkB (n := 1) H2 [UInt8.ofNat m] (by simp [u8s]) rfl (by simp)
  have hl3 : (b.take m).length ≤ 255 := by simp; omega
  go_wp2_with (with_reducible refine stop_append ?_)
  refine Hold.go (wpList_appendB rfl _ _ rfl rfl rfl H3 (hsub.world H3) (by simp only [List.length_singleton]; omega) ?_)
  intro v2 w2 H4
  go_wp2_with fail
  go_ret
  rw [HE.out]
  exact ⟨_, rfl, H4⟩
theorem refraw_spec {w : World} {R : Snap} {L : Asrt} {p at_ : Nat} {v : Value} {b : List UInt8} {bad : Bool} {n : Int} (H : Holds w R (star (blk p #[v, .int .i64 at_, .bool bad] 167) L)) (hr : RdB R.cell? v b) (ha : at_ ≤ b.length) (hb : b.length ≤ 1000000) :
    Calls Try.prog 152 #[.pointer (some ⟨p, 0, none⟩), .int .i64 n] w fun e w' => ∃ out, e = .returned out ∧ Holds w' R (star (rowB out (cutOut (b.drop at_) bad n.toNat)) (star (blk p #[v, .int .i64 (cutAt b at_ bad n.toNat), .bool (!cutOk (b.drop at_) bad n.toNat)] 167) L)) := by
  obtain ⟨ab, cb, rfl⟩ := hr.form
  have fp := H.facts
  go_enter Try.func152, Try.ntmps152
  obtain ⟨m, hm⟩ : ∃ m, m = n.toNat := ⟨_, rfl⟩
  go_upto_if 6 with fail
  go_cut [1] (fun s1 wx => s1 = .int .i64 m ∧ wx = w)
  case first =>
    go_wp2_with fail
    · go_meet
      case rel => exact ⟨by rw [show (m : Int) = 0 by omega], rfl⟩
    · go_meet
      case rel => exact ⟨by rw [show (m : Int) = n by omega], rfl⟩
  obtain ⟨rfl, rfl⟩ := hcut
  have HM := Hid.mk' hm
  clear hm
  have hdl : (b.drop at_).length = b.length - at_ := by simp
  by_cases hok : cutOk (b.drop at_) bad m = true
  · obtain ⟨hb1, hm2⟩ : bad = false ∧ m ≤ b.length - at_ := by simpa [cutOk, hdl] using hok
    subst hb1
    have HOK := Hid.mk' hok
    have t1 : (decide ((b.length : Int) - at_ < m)) = false := by simp; omega
    clear hok hdl
    go_wp2_with fail
    go_quiet (fail)
    go_wp2_with fail
    have H2 := (H.drewN nq).set 1 (.int .i64 ((at_ : Int) + m))
    generalize (World.setCell _ _ _) = w2 at H2 ⊢
    obtain ⟨a2, ha2⟩ : ∃ a2, a2 = at_ + m := ⟨_, rfl⟩
    rw [show (at_ : Int) + m = (a2 : Int) by omega] at H2
    clear fp
    obtain ⟨lp, np, cp, zp⟩ := Holds.facts (H2)
    have HA := Hid.mk' ha2
    have e1 : IntKind.i64.wrap ((a2 : Int) - m) = at_ := by rw [IntWalk.i64_in _ (by omega)]; omega
    have i1 : (at_ : Int) ≤ a2 := by omega
    have hB := hr.bounds
    have i2 : (a2 : Int) ≤ cb := by omega
    have i3 : (0 : Int) ≤ at_ := by omega
    have hsub := RdB.sub (hr.world H2) at_ a2 cb (by omega) (by omega) (by omega) (Nat.le_refl _)
    have hlen : ((b.drop at_).take (a2 - at_)).length ≤ 1000000 := by simp; omega
    clear ha2 hB
    have hr4 : RdB ((w2.alloc (.cells #[] tU8)).drew).cell? _ _ := hsub.below ((Below.refl _ _).alloc (Nat.le_refl _) _).drew
    have H3 : Holds _ R (star (rowB _ []) (star (blk p #[.slice ab b.length cb, .int .i64 a2, .bool false] 167) L)) := (freshB H2).drew
    go_region_held3 (fun w' => (∀ o, w'.cell? ⟨p, o, none⟩ = #[.slice ab b.length cb, Value.int .i64 a2, .bool false][o]?)) (first | (exact H4.swap.blkCell) | ((repeat' (first | assumption | (with_reducible refine And.intro ?_ ?_) | (with_reducible refine keep_drew ?_) | (with_reducible refine keep_drewN ?_) | (with_reducible refine keep_alloc ?_ (by first | assumption | (simp only [World.size_alloc, World.size_drew, World.size_setCell]; omega))) | (with_reducible refine keep_set ?_ (by first | assumption | omega)))))) ((refine step_appendB rfl _ _ (by rfl) (by rfl) (by rfl) H3 hr4 (by simp only [List.length_nil]; omega) ?_; intro v4 w4 H4))
    all_goals
      go_wp2_with fail
      go_ret
      have e2 := HA.out
      subst e2
      have e3 := HOK.out
      rw [Nat.add_sub_cancel_left, List.nil_append] at H4
      rw [cutOut, cutAt, ← HM.out, e3]
      exact ⟨_, rfl, H4⟩
  · have hok2 : cutOk (b.drop at_) bad m = false := by simpa using hok
    have HOK := Hid.mk' hok2
    have hgt : bad = false → (b.length : Int) - at_ < m := fun e => by rw [e] at hok2; simp [cutOk] at hok2; omega
    clear hok hok2 hdl
    have fin : ∀ w', Holds w' R (star (blk p #[.slice ab b.length cb, .int .i64 (b.length : Nat), .bool true] 167) L) → Holds w' R (star (rowB (.slice none 0 0) (cutOut (b.drop at_) bad n.toNat)) (star (blk p #[.slice ab b.length cb, .int .i64 (cutAt b at_ bad n.toNat), .bool (!cutOk (b.drop at_) bad n.toNat)] 167) L)) := fun w' h => by
      have e3 := HOK.out
      rw [cutOut, cutAt, ← HM.out, e3]
      exact h.nilRow _ 1
    have FIN := Hid.mk' fin
    clear fin
    cases bad with
    | true =>
      clear hgt
      go_wp2_with fail
      go_quiet (fail)
      go_wp2_with fail
      go_ret
      exact ⟨_, rfl, FIN.out _ (((H.drewN _).set 2 (.bool true)).set 1 (.int .i64 b.length))⟩
    | false =>
      have hgt := hgt rfl
      have t1 : (decide ((b.length : Int) - at_ < m)) = true := by simp; omega
      go_wp2_with fail
      go_quiet (fail)
      go_wp2_with fail
      go_ret
      exact ⟨_, rfl, FIN.out _ (((H.drewN _).set 2 (.bool true)).set 1 (.int .i64 b.length))⟩
theorem refrnum_spec {w : World} {R : Snap} {L : Asrt} {p at_ : Nat} {v : Value} {b : List UInt8} {bad : Bool} {k : Int} (H : Holds w R (star (blk p #[v, .int .i64 at_, .bool bad] 167) L)) (hr : RdB R.cell? v b) (ha : at_ ≤ b.length) (hb : b.length ≤ 1000000) :
    Calls Try.prog 137 #[.pointer (some ⟨p, 0, none⟩), .int .i64 k] w fun e w' => e = .returned (.int .i64 (valB (cutOut (b.drop at_) bad (wid k)))) ∧ Holds w' R (star (blk p #[v, .int .i64 (cutAt b at_ bad (wid k)), .bool (!cutOk (b.drop at_) bad (wid k))] 167) L) := by
  go_enter Try.func137, Try.ntmps137
  go_wp2_with fail
  refine (rwidth_spec _ _).mono ?_
  rintro e w1 ⟨rfl, rfl⟩
  go_wp2_with fail
  refine (refraw_spec H hr ha hb).mono ?_
  rintro e w1 ⟨out, rfl, H1⟩
  rw [Int.toNat_natCast] at H1
  obtain ⟨ao, co, rfl⟩ := H1.rowRd.form
  obtain ⟨l, hl⟩ : ∃ l, l = cutOut (b.drop at_) bad (wid k) := ⟨_, rfl⟩
  rw [← hl] at H1
  have HL := Hid.mk' hl
  have hl4 : l.length ≤ 4 := by
    have := wid_bd k
    rw [hl, cutOut]; split <;> simp; omega
  rw [← hl]
  clear hl
  have h2 : RdB w1.cell? (.slice ao l.length co) l := H1.rowRd
  go_wp2_with fail
  go_loop [6, 7] (fun n i => ∃ j : Nat, i = .int .i64 j ∧ j ≤ l.length ∧ n = .int .i64 (valB (l.take j))) (fun _ i => l.length - (intOf i).toNat)
  case atStart => exact ⟨0, rfl, Nat.zero_le _, rfl⟩
  case round =>
    obtain ⟨j, rfl, hj, rfl⟩ := hrel
    by_cases hlt : j < l.length
    · obtain ⟨bo, oo, rfl, hc⟩ := RdB.open h2 (by omega)
      have cj := hc j hlt
      have hval := valB_succ l j hlt
      generalize l[j] = x at cj hval
      have hx := u8_lt x
      have hv := valB_lt (l.take j)
      have hv3 : valB (l.take j) < 16777216 := by
        have h3 : (l.take j).length ≤ 3 := by simp; omega
        exact Nat.lt_of_lt_of_le hv (Nat.pow_le_pow_right (n := 256) (by decide) h3)
      generalize valB (l.take j) = y at *
      have HV := Hid.mk' hval
      clear hval hc hv
      go_wp2_with fail
      go_round
      case rel => exact ⟨j + 1, by go_num, hlt, by rw [HV.out]; go_num⟩
      case measure => simp [intOf]; omega
    · go_wp2_with fail
      go_ret
      rw [List.take_of_length_le (by omega), HL.out]
      exact ⟨rfl, H1.drop⟩
theorem cutAt_le {b : List UInt8} {a n : Nat} {bad : Bool} (h : a ≤ b.length) : cutAt b a bad n ≤ b.length := by
  unfold cutAt; split
  · rename_i h1; simp [cutOk] at h1; omega
  · exact Nat.le_refl _
theorem drop_cutAt {b : List UInt8} {a n : Nat} {bad : Bool} : b.drop (cutAt b a bad n) = cutRest (b.drop a) bad n := by
  unfold cutAt cutRest; split
  · rw [List.drop_drop]
  · simp
theorem refrtext_spec {w : World} {R : Snap} {L : Asrt} {p at_ : Nat} {v : Value} {b : List UInt8} {bad : Bool} (H : Holds w R (star (blk p #[v, .int .i64 at_, .bool bad] 167) L)) (hr : RdB R.cell? v b) (ha : at_ ≤ b.length) (hb : b.length ≤ 1000000) :
    Calls Try.prog 138 #[.pointer (some ⟨p, 0, none⟩)] w fun e w' => ∃ out, e = .returned out ∧ Holds w' R (star (rowB out (cutOut (cutRest (b.drop at_) bad 1) (!cutOk (b.drop at_) bad 1) (valB (cutOut (b.drop at_) bad 1)))) (star (blk p #[v, .int .i64 (cutAt b (cutAt b at_ bad 1) (!cutOk (b.drop at_) bad 1) (valB (cutOut (b.drop at_) bad 1))), .bool (!cutOk (cutRest (b.drop at_) bad 1) (!cutOk (b.drop at_) bad 1) (valB (cutOut (b.drop at_) bad 1)))] 167) L)) := by
  go_enter Try.func138, Try.ntmps138
  go_wp2_with fail
  refine (refrnum_spec H hr ha hb).mono ?_
  rintro e w1 ⟨rfl, H1⟩
  rw [show wid 1 = 1 from rfl] at H1 ⊢
  go_wp2_with fail
  refine (refraw_spec H1 hr (cutAt_le ha) hb).mono ?_
  rintro e w2 ⟨out, rfl, H2⟩
  rw [Int.toNat_natCast, drop_cutAt] at H2
  go_wp2_with fail
  go_ret
  exact ⟨_, rfl, H2⟩
end Sh
