/- PackRd PackRef Label MsgIn: joined texts, each with its own sentence below. -/
import Derived.Test.YtmogagcffebbaaaJd2
import Derived.WalkSpells
/- The packer (layer 6): contracts of the reader. -/
set_option linter.unusedVariables false
set_option linter.unusedSimpArgs false
namespace Sh
open Go Go.RowKit Go.Proofs
attribute [local go_sem ↓] Go.wp_at_zero Go.wp_at_succ
set_option maxHeartbeats 1000000
set_option maxRecDepth 100000

def cutOk (rest : List UInt8) (bad : Bool) (n : Nat) : Bool := !bad && decide (n ≤ rest.length)
def cutOut (rest : List UInt8) (bad : Bool) (n : Nat) : List UInt8 := if cutOk rest bad n then rest.take n else []
def cutRest (rest : List UInt8) (bad : Bool) (n : Nat) : List UInt8 := if cutOk rest bad n then rest.drop n else []
def valB (l : List UInt8) : Nat := l.foldl (fun a c => a * 256 + c.toNat) 0

theorem cut_spec {w : World} {R : Snap} {L : Asrt} {p : Nat} {v : Value} {rest : List UInt8} {bad : Bool} {n : Int} (H : Holds w R (star (blk p #[v, .bool bad] 211) L)) (hr : RdB R.cell? v rest) :
    Calls Try.prog 187 #[.pointer (some ⟨p, 0, none⟩), .int .i64 n] w fun e w' => ∃ out v', e = .returned out ∧ Holds w' R (star (blk p #[v', .bool (!cutOk rest bad n.toNat)] 211) L) ∧ RdB R.cell? v' (cutRest rest bad n.toNat) ∧ RdB R.cell? out (cutOut rest bad n.toNat) := by
  obtain ⟨a, c, rfl⟩ := hr.form
  have fp := H.facts
  obtain ⟨m, hm⟩ : ∃ m, m = n.toNat := ⟨_, rfl⟩
  have e1 : max n 0 = (m : Int) := by omega
  have hB := hr.bounds
  rw [← hm]
  clear hm
  by_cases hb : bad = true
  · subst hb
    go_enter Try.func187, Try.ntmps187
    go_wp2_with fail
    go_ret
    exact ⟨_, _, rfl, (H.set 0 (.slice none 0 0)).set 1 (.bool true), Rd.nil, Rd.nil⟩
  · obtain rfl : bad = false := by simpa using hb
    by_cases hn : m ≤ rest.length
    · have t1 : (decide ((rest.length : Int) < m)) = false := by simp; omega
      have hok : cutOk rest false m = true := by simp [cutOk, hn]
      have i1 : (m : Int) ≤ rest.length := by omega
      have i2 : (m : Int) ≤ c := by omega
      have h1 := RdB.sub hr m rest.length c hn (Nat.le_refl _) hB.1 (Nat.le_refl _)
      have h2 : RdB R.cell? (.slice a m m) (rest.take m) := by
        have e : (rest.take m).length = m := by simp; omega
        have h := RdB.pre hr m hn
        simp only [RdB, e] at h ⊢
        exact h.subCap m (Nat.le_refl _) (by omega)
      have HO := Hid.mk' hok
      clear hB hok
      go_enter Try.func187, Try.ntmps187
      go_wp2_with fail
      go_ret
      have e2 := HO.out
      rw [cutRest, cutOut, e2]
      rw [List.take_of_length_le (by simp)] at h1
      exact ⟨_, _, rfl, H.set 0 (.slice (adr a c m 1) (rest.length - m) (c - m)), h1, h2⟩
    · have t1 : (decide ((rest.length : Int) < m)) = true := by simp; omega
      have hok : cutOk rest false m = false := by simp [cutOk]; omega
      have HO := Hid.mk' hok
      clear hok hB
      go_enter Try.func187, Try.ntmps187
      go_wp2_with fail
      go_ret
      have e2 := HO.out
      rw [cutRest, cutOut, e2]
      exact ⟨_, _, rfl, (H.set 0 (.slice none 0 0)).set 1 (.bool true), Rd.nil, Rd.nil⟩
theorem cut_nil (w : World) (n : Int) : Calls Try.prog 187 #[.pointer none, .int .i64 n] w fun e w' => e = .returned (.slice none 0 0) ∧ w = w' := by
  go_enter Try.func187, Try.ntmps187
  go_wp2_with fail
  go_ret
  exact ⟨rfl, rfl⟩
theorem valB_snoc (l : List UInt8) (c : UInt8) : valB (l ++ [c]) = valB l * 256 + c.toNat := by simp [valB]
theorem valB_succ (l : List UInt8) (j : Nat) (h : j < l.length) : valB (l.take (j + 1)) = valB (l.take j) * 256 + l[j].toNat := by
  rw [List.take_succ_eq_append_getElem h, valB_snoc]
theorem valB_foldl_lt : ∀ (l : List UInt8) (a : Nat), l.foldl (fun a c => a * 256 + c.toNat) a < (a + 1) * 256 ^ l.length
  | [], a => by simp
  | c :: l, a => by
    have := valB_foldl_lt l (a * 256 + c.toNat)
    have hc := c.toNat_lt
    refine Nat.lt_of_lt_of_le this ?_
    rw [List.length_cons, Nat.pow_succ, Nat.mul_comm (256 ^ l.length) 256, ← Nat.mul_assoc]
    exact Nat.mul_le_mul_right _ (by omega)
theorem valB_lt (l : List UInt8) : valB l < 256 ^ l.length := by have := valB_foldl_lt l 0; simpa [valB] using this
theorem rnum_spec {w : World} {R : Snap} {L : Asrt} {p : Nat} {v : Value} {rest : List UInt8} {bad : Bool} {k : Int} (H : Holds w R (star (blk p #[v, .bool bad] 211) L)) (hr : RdB R.cell? v rest) :
    Calls Try.prog 127 #[.pointer (some ⟨p, 0, none⟩), .int .i64 k] w fun e w' => ∃ v', e = .returned (.int .i64 (valB (cutOut rest bad (wid k)))) ∧ Holds w' R (star (blk p #[v', .bool (!cutOk rest bad (wid k))] 211) L) ∧ RdB R.cell? v' (cutRest rest bad (wid k)) := by
  go_enter Try.func127, Try.ntmps127
  go_wp2_with fail
  refine (width_spec _ _).mono ?_
  rintro e w1 ⟨rfl, rfl⟩
  go_wp2_with fail
  refine (cut_spec H hr).mono ?_
  rintro e w1 ⟨out, v', rfl, H1, h1, h2⟩
  rw [Int.toNat_natCast] at H1 h1 h2
  obtain ⟨l, hl⟩ : ∃ l, l = cutOut rest bad (wid k) := ⟨_, rfl⟩
  rw [← hl] at h2
  have HL := Hid.mk' hl
  have hl4 : l.length ≤ 4 := by
    have := wid_bd k
    rw [hl, cutOut]; split <;> simp; omega
  clear hl
  obtain ⟨ao, co, rfl⟩ := h2.form
  go_wp2_with fail
  go_loop [6, 16] (fun n i => ∃ j : Nat, i = .int .i64 j ∧ j ≤ l.length ∧ n = .int .i64 (valB (l.take j))) (fun _ i => l.length - (intOf i).toNat)
  case atStart => exact ⟨0, rfl, Nat.zero_le _, rfl⟩
  case round =>
    obtain ⟨j, rfl, hj, rfl⟩ := hrel
    by_cases hlt : j < l.length
    · obtain ⟨bo, oo, rfl, hc⟩ := RdB.open (h2.world H1) (by omega)
      have cj := hc j hlt
      have hval := valB_succ l j hlt
      generalize l[j] = x at cj hval
      have hx := u8_lt x
      have hv := valB_lt (l.take j)
      have hv3 : valB (l.take j) < 16777216 := by
        have h3 : (l.take j).length ≤ 3 := by simp; omega
        exact Nat.lt_of_lt_of_le hv (Nat.pow_le_pow_right (n := 256) (by decide) h3)
      generalize valB (l.take j) = y at *
      have HV := Hid.mk' hval
      clear hval hc hv
      go_wp2_with fail
      go_round
      case rel =>
        refine ⟨j + 1, by go_num, hlt, ?_⟩
        rw [HV.out, bits_join .i64 40 (by decide) (fun n h0 h1 => IntWalk.i64_in n (by omega)) 8 _ _ (by omega) (by omega) (by omega) (by omega) (by omega) (by omega)]
        norm_cast
      case measure => simp [intOf]; omega
    · go_wp2_with fail
      go_ret
      rw [List.take_of_length_le (by omega), HL.out]
      first | exact ⟨_, rfl, H1, h1⟩ | exact ⟨rfl, _, H1, h1⟩
theorem rnum_nil (w : World) (k : Int) : Calls Try.prog 127 #[.pointer none, .int .i64 k] w fun e w' => e = .returned (.int .i64 0) ∧ w = w' := by
  go_enter Try.func127, Try.ntmps127
  go_wp2_with fail
  refine (width_spec _ _).mono ?_
  rintro e w1 ⟨rfl, rfl⟩
  go_wp2_with fail
  refine (cut_nil _ _).mono ?_
  rintro e w1 ⟨rfl, rfl⟩
  go_wp2_with fail
  go_loop [6, 16] (fun n i => n = .int .i64 0 ∧ i = .int .i64 0) (fun _ i => 0)
  case atStart => exact ⟨rfl, rfl⟩
  case round =>
    obtain ⟨rfl, rfl⟩ := hrel
    go_wp2_with fail
    go_ret
    exact ⟨rfl, rfl⟩
theorem rraw_spec {w : World} {R : Snap} {L : Asrt} {p : Nat} {v : Value} {rest : List UInt8} {bad : Bool} {n : Int} (H : Holds w R (star (blk p #[v, .bool bad] 211) L)) (hr : RdB R.cell? v rest) (hl : rest.length ≤ 1000000) :
    Calls Try.prog 188 #[.pointer (some ⟨p, 0, none⟩), .int .i64 n] w fun e w' => ∃ out v', e = .returned out ∧ Holds w' R (star (rowB out (cutOut rest bad n.toNat)) (star (blk p #[v', .bool (!cutOk rest bad n.toNat)] 211) L)) ∧ RdB R.cell? v' (cutRest rest bad n.toNat) := by
  have hl2 : (cutOut rest bad n.toNat).length ≤ 1000000 := by rw [cutOut]; split <;> simp; omega
  go_enter Try.func188, Try.ntmps188
  go_wp2_with (with_reducible refine stop_append ?_)
  refine (cut_spec (freshB H).swap hr).mono ?_
  rintro e w1 ⟨out, v', rfl, H1, h1, h2⟩
  go_wp2_with (with_reducible refine stop_append ?_)
  refine Hold.go (wpList_appendB rfl _ _ rfl rfl rfl H1.swap (h2.world H1) (by simp only [List.length_nil]; omega) ?_)
  intro v2 w2 H2
  go_wp2_with fail
  go_ret
  exact ⟨_, _, rfl, H2, h1⟩
theorem rraw_nil {w : World} {R : Snap} {L : Asrt} (H : Holds w R L) (n : Int) : Calls Try.prog 188 #[.pointer none, .int .i64 n] w fun e w' => ∃ out, e = .returned out ∧ Holds w' R (star (rowB out []) L) := by
  go_enter Try.func188, Try.ntmps188
  go_wp2_with (with_reducible refine stop_append ?_)
  refine (cut_nil _ _).mono ?_
  rintro e w1 ⟨rfl, rfl⟩
  go_wp2_with (with_reducible refine stop_append ?_)
  refine Hold.go (wpList_appendB rfl _ _ rfl rfl rfl (freshB H) RdB.nil (by simp) ?_)
  intro v2 w2 H2
  go_wp2_with fail
  go_ret
  exact ⟨_, rfl, H2⟩
theorem rtext_spec {w : World} {R : Snap} {L : Asrt} {p : Nat} {v : Value} {rest : List UInt8} {bad : Bool} (H : Holds w R (star (blk p #[v, .bool bad] 211) L)) (hr : RdB R.cell? v rest) (hl : rest.length ≤ 1000000) :
    Calls Try.prog 129 #[.pointer (some ⟨p, 0, none⟩)] w fun e w' => ∃ out v', e = .returned out ∧ Holds w' R (star (rowB out (cutOut (cutRest rest bad 1) (!cutOk rest bad 1) (valB (cutOut rest bad 1)))) (star (blk p #[v', .bool (!cutOk (cutRest rest bad 1) (!cutOk rest bad 1) (valB (cutOut rest bad 1)))] 211) L)) ∧ RdB R.cell? v' (cutRest (cutRest rest bad 1) (!cutOk rest bad 1) (valB (cutOut rest bad 1))) := by
  go_enter Try.func129, Try.ntmps129
  go_wp2_with fail
  refine (rnum_spec H hr).mono ?_
  rintro e w1 ⟨v1, rfl, H1, h1⟩
  go_wp2_with fail
  refine (rraw_spec H1 h1 (by rw [cutRest]; split <;> simp; omega)).mono ?_
  rintro e w2 ⟨out, v2, rfl, H2, h2⟩
  go_wp2_with fail
  go_ret
  rw [Int.toNat_natCast] at H2 h2
  exact ⟨_, _, rfl, H2, h2⟩
theorem rleft_spec {w : World} {R : Snap} {L : Asrt} {p : Nat} {v : Value} {rest : List UInt8} {bad : Bool} (H : Holds w R (star (blk p #[v, .bool bad] 211) L)) (hr : RdB R.cell? v rest) :
    Calls Try.prog 197 #[.pointer (some ⟨p, 0, none⟩)] w fun e w' => e = .returned (.int .i64 rest.length) ∧ w = w' := by
  obtain ⟨a, c, rfl⟩ := hr.form
  have fp := H.facts
  go_enter Try.func197, Try.ntmps197
  go_wp2_with fail
  go_ret
  exact ⟨rfl, rfl⟩
theorem rleft_nil (w : World) : Calls Try.prog 197 #[.pointer none] w fun e w' => e = .returned (.int .i64 0) ∧ w = w' := by
  go_enter Try.func197, Try.ntmps197
  go_wp2_with fail
  go_ret
  exact ⟨rfl, rfl⟩
theorem rgood_spec {w : World} {R : Snap} {L : Asrt} {p : Nat} {v : Value} {bad : Bool} (H : Holds w R (star (blk p #[v, .bool bad] 211) L)) :
    Calls Try.prog 189 #[.pointer (some ⟨p, 0, none⟩)] w fun e w' => e = .returned (.bool (!bad)) ∧ w = w' := by
  have fp := H.facts
  go_enter Try.func189, Try.ntmps189
  go_wp2_with fail
  go_ret
  exact ⟨rfl, rfl⟩
theorem rgood_nil (w : World) : Calls Try.prog 189 #[.pointer none] w fun e w' => e = .returned (.bool false) ∧ w = w' := by
  go_enter Try.func189, Try.ntmps189
  go_wp2_with fail
  go_ret
  exact ⟨rfl, rfl⟩
theorem rdone_spec {w : World} {R : Snap} {L : Asrt} {p : Nat} {v : Value} {rest : List UInt8} {bad : Bool} (H : Holds w R (star (blk p #[v, .bool bad] 211) L)) (hr : RdB R.cell? v rest) :
    Calls Try.prog 192 #[.pointer (some ⟨p, 0, none⟩)] w fun e w' => e = .returned (.bool (!bad && decide (rest.length = 0))) ∧ w = w' := by
  cases bad with
  | true =>
    go_enter Try.func192, Try.ntmps192
    go_wp2_with fail
    refine (rgood_spec H).mono ?_
    rintro e w1 ⟨rfl, rfl⟩
    go_wp2_with fail
    go_ret
    exact ⟨rfl, rfl⟩
  | false =>
    go_enter Try.func192, Try.ntmps192
    go_wp2_with fail
    refine (rgood_spec H).mono ?_
    rintro e w1 ⟨rfl, rfl⟩
    go_wp2_with fail
    refine (rleft_spec H hr).mono ?_
    rintro e w1 ⟨rfl, rfl⟩
    go_wp2_with fail
    go_ret
    exact ⟨ret_bool (by rw [Bool.eq_iff_iff]; simp), rfl⟩
theorem rdone_nil (w : World) : Calls Try.prog 192 #[.pointer none] w fun e w' => e = .returned (.bool false) ∧ w = w' := by
  go_enter Try.func192, Try.ntmps192
  go_wp2_with fail
  refine (rgood_nil _).mono ?_
  rintro e w1 ⟨rfl, rfl⟩
  go_wp2_with fail
  go_ret
  exact ⟨rfl, rfl⟩
theorem read_spec {w : World} {R : Snap} {L : Asrt} {v : Value} {b : List UInt8} (H : Holds w R L) (hr : RdB R.cell? v b) :
    Calls Try.prog 126 #[v] w fun e w' => ∃ p, e = .returned (.pointer (some ⟨p, 0, none⟩)) ∧ Holds w' R (star (blk p #[v, .bool false] 211) L) := by
  obtain ⟨a, c, rfl⟩ := hr.form
  go_enter Try.func126, Try.ntmps126
  go_wp2_with fail
  go_ret
  exact ⟨_, rfl, H.alloc _ _⟩
end Sh
/- The packer's reference (sherdref06): contracts. -/
set_option linter.unusedVariables false
set_option linter.unusedSimpArgs false
namespace Sh
open Go Go.RowKit Go.Proofs
attribute [local go_sem ↓] Go.wp_at_zero Go.wp_at_succ
set_option maxHeartbeats 1000000
set_option maxRecDepth 100000

theorem rwidth_spec (k : Int) (w : World) : Calls Try.prog 190 #[.int .i64 k] w fun e w' => e = .returned (.int .i64 (wid k)) ∧ w = w' := by
  by_cases h1 : k < 1
  · go_enter Try.func190, Try.ntmps190
    go_wp2_with fail
    go_ret
    exact ⟨ret_int (by unfold wid; omega), rfl⟩
  · by_cases h2 : 4 < k
    · go_enter Try.func190, Try.ntmps190
      go_wp2_with fail
      go_ret
      exact ⟨ret_int (by unfold wid; omega), rfl⟩
    · go_enter Try.func190, Try.ntmps190
      go_wp2_with fail
      go_ret
      exact ⟨ret_int (by unfold wid; omega), rfl⟩

theorem be_drop (k n i : Nat) (h : i < k) : (be k n).drop i = UInt8.ofNat (n / 256 ^ (k - 1 - i)) :: (be k n).drop (i + 1) := by
  rw [List.drop_eq_getElem_cons (by rw [be_length]; exact h)]
  simp [be]
theorem refnum_spec {w : World} {R : Snap} {L : Asrt} {k n : Int} (H : Holds w R L) (hn : n ≤ 9223372036854775807) :
    Calls Try.prog 133 #[.int .i64 k, .int .i64 n] w fun e w' => ∃ v, e = .returned v ∧ Holds w' R (star (rowB v (nb k n)) L) := by
  obtain ⟨kk, hkk⟩ : ∃ kk, kk = wid k := ⟨_, rfl⟩
  obtain ⟨nn, hnn⟩ : ∃ nn : Nat, (nn : Int) = max n 0 := ⟨(max n 0).toNat, by omega⟩
  have HK := Hid.mk' hkk
  have HNN := Hid.mk' hnn
  have hk1 : 1 ≤ kk ∧ kk ≤ 4 := hkk ▸ wid_bd k
  obtain ⟨hk1, hk4⟩ := hk1
  have hn9 : nn ≤ 9223372036854775807 := by omega
  have hnb : nb k n = be kk nn := by unfold nb; rw [← hkk, ← hnn, Int.toNat_natCast]
  have HNB := Hid.mk' hnb
  go_enter Try.func133, Try.ntmps133
  go_wp2_with fail
  refine (rwidth_spec _ _).mono ?_
  rintro e w1 ⟨rfl, rfl⟩
  rw [← hkk]
  clear hkk hnb
  go_upto_if 10 with fail
  go_cut [1] (fun s1 wx => s1 = .int .i64 nn ∧ wx = w)
  case first =>
    go_wp2_with fail
    · go_meet
      case rel => exact ⟨by rw [show (nn : Int) = 0 by omega], rfl⟩
    · go_meet
      case rel => exact ⟨by rw [show (nn : Int) = n by omega], rfl⟩
  obtain ⟨rfl, rfl⟩ := hcut
  clear hnn
  go_wp2_with (with_reducible refine stop_make ?_)
  refine Hold.go (wpList_makeB rfl _ _ rfl rfl rfl H (by omega) ?_)
  intro v2 w2 H2
  obtain ⟨a2, c2, rfl⟩ := H2.rowRd.form
  simp only [rowB, List.length_replicate] at H2 ⊢
  go_wp2_with fail
  go_loopw [1, 6] (fun n i wr => ∃ j : Nat, i = .int .i64 ((j : Int) - 1) ∧ j ≤ kk ∧ n = .int .i64 ((nn / 256 ^ (kk - j) : Nat) : Int) ∧ Holds wr R (star (row tU8 1 (.slice a2 kk c2) kk (u8s (List.replicate j 0 ++ (be kk nn).drop j))) L)) (fun _ i _ => (intOf i + 1).toNat)
  case atStart => exact ⟨kk, rfl, Nat.le_refl _, by simp, by rw [List.drop_of_length_le (by rw [be_length]; omega), List.append_nil]; exact H2⟩
  case round =>
    obtain ⟨j, rfl, hj, rfl, H3⟩ := hrel
    cases j with
    | zero =>
      go_wp2_with fail
      go_ret
      have e := HNB.out
      rw [e]
      refine ⟨_, rfl, ?_⟩
      show Holds _ R (star (row tU8 1 _ (be kk nn).length _) L)
      rw [be_length]
      exact H3
    | succ t =>
      have e0 : ((t + 1 : Nat) : Int) - 1 = (t : Int) := by omega
      rw [e0]
      obtain ⟨g, cap, e1, hc, hg2, hcl, hfz⟩ := H3.rowAt (by omega)
      simp only [Value.slice.injEq, true_and] at e1
      obtain ⟨rfl, rfl⟩ := e1
      have ct := hcl t (.int .u8 0) (by
        rw [show (Value.int .u8 0) = .int .u8 ((0 : UInt8).toNat : Int) from rfl]
        have hlt : t < (List.replicate (t + 1) (0 : UInt8) ++ (be kk nn).drop (t + 1)).length := by simp; omega
        rw [u8s_get _ _ hlt, List.getElem_append_left (by simp)]; simp)
      clear hcl
      obtain ⟨y, hy⟩ : ∃ y, y = nn / 256 ^ (kk - (t + 1)) := ⟨_, rfl⟩
      rw [← hy]
      have hy9 : y ≤ 9223372036854775807 := by rw [hy]; exact Nat.le_trans (Nat.div_le_self _ _) hn9
      have HY := Hid.mk' hy
      clear hy e0
      go_wp2_with fail
      go_roundw
      case rel =>
        refine ⟨t, rfl, by omega, ?_, ?_⟩
        · have e : nn / 256 ^ (kk - t) = y / 256 := by
            rw [HY.out, Nat.div_div_eq_div_mul, ← Nat.pow_succ, show (kk - (t + 1)).succ = kk - t by omega]
          rw [e]; norm_cast
        · have h := row_write H3 t ((y : Int) % 256) (by omega) (by omega)
          have e2 : (List.replicate (t + 1) (0 : UInt8) ++ (be kk nn).drop (t + 1)).set t (UInt8.ofNat ((y : Int) % 256).toNat) = List.replicate t 0 ++ (be kk nn).drop t := by
            rw [be_drop kk nn t (by omega), List.replicate_succ', List.append_assoc, List.set_append_right _ _ (by rw [List.length_replicate]; exact Nat.le_refl _)]
            rw [List.length_replicate, Nat.sub_self, List.singleton_append, List.set_cons_zero]
            have e3 : UInt8.ofNat ((y : Int) % 256).toNat = UInt8.ofNat (nn / 256 ^ (kk - 1 - t)) := by
              rw [show kk - 1 - t = kk - (t + 1) by omega, ← HY.out]
              apply UInt8.toNat_inj.1
              rw [show ((y : Int) % 256).toNat = y % 256 by omega]
              simp
            rw [e3]
          rw [e2] at h
          exact h
      case measure => simp [intOf]
theorem nb_one (m : Nat) : nb 1 (m : Int) = [UInt8.ofNat m] := by
  have e : (max (m : Int) 0).toNat = m := by omega
  unfold nb; rw [e, show wid 1 = 1 from rfl]; simp [be]
def cutAt (b : List UInt8) (at_ : Nat) (bad : Bool) (n : Nat) : Nat := if cutOk (b.drop at_) bad n then at_ + n else b.length
theorem reftext_spec {w : World} {R : Snap} {L : Asrt} {v : Value} {b : List UInt8} (H : Holds w R L) (hr : RdB R.cell? v b) (hb : b.length ≤ 1000000) :
    Calls Try.prog 134 #[v] w fun e w' => ∃ v', e = .returned v' ∧ Holds w' R (star (rowB v' (nb 1 (min b.length 255 : Nat) ++ b.take 255)) L) := by
  obtain ⟨ab, cb, rfl⟩ := hr.form
  go_enter Try.func134, Try.ntmps134
  obtain ⟨m, hm⟩ : ∃ m, m = min b.length 255 := ⟨_, rfl⟩
  have hB := hr.bounds
  have hm9 : m ≤ 255 := by omega
  go_upto_if 5 with fail
  go_cut [0] (fun s0 wx => s0 = .slice ab m cb ∧ wx = w)
  case first =>
    have i1 : (255 : Int) ≤ cb ∨ b.length ≤ 255 := by omega
    go_wp2_with fail
    · go_meet
      case rel => exact ⟨by rw [show m = 255 by omega], rfl⟩
    · go_meet
      case rel => exact ⟨by rw [show m = b.length by omega], rfl⟩
  obtain ⟨rfl, rfl⟩ := hcut
  have hsub := RdB.pre hr m (by omega)
  have e1 : nb 1 (min b.length 255 : Nat) ++ b.take 255 = [UInt8.ofNat m] ++ b.take m := by
    rw [← hm, show b.take 255 = b.take m by rw [hm]; by_cases h : b.length ≤ 255 <;> simp [List.take_of_length_le, h, Nat.min_def]]
    rw [nb_one]
  have HE := Hid.mk' e1
  clear e1 hm
  have hw : IntKind.u8.wrap (m : Int) = ((UInt8.ofNat m).toNat : Int) := by rw [IntKind.wrap_u8]; simp
  have H2 := H.alloc #[.int .u8 ((UInt8.ofNat m).toNat : Int)] tU8
  have H3 := blkB (n := 1) H2 [UInt8.ofNat m] (by simp [u8s]) rfl (by simp)
  have hl3 : (b.take m).length ≤ 255 := by simp; omega
  go_wp2_with (with_reducible refine stop_append ?_)
  refine Hold.go (wpList_appendB rfl _ _ rfl rfl rfl H3 (hsub.world H3) (by simp only [List.length_singleton]; omega) ?_)
  intro v2 w2 H4
  go_wp2_with fail
  go_ret
  rw [HE.out]
  exact ⟨_, rfl, H4⟩
theorem refraw_spec {w : World} {R : Snap} {L : Asrt} {p at_ : Nat} {v : Value} {b : List UInt8} {bad : Bool} {n : Int} (H : Holds w R (star (blk p #[v, .int .i64 at_, .bool bad] 167) L)) (hr : RdB R.cell? v b) (ha : at_ ≤ b.length) (hb : b.length ≤ 1000000) :
    Calls Try.prog 152 #[.pointer (some ⟨p, 0, none⟩), .int .i64 n] w fun e w' => ∃ out, e = .returned out ∧ Holds w' R (star (rowB out (cutOut (b.drop at_) bad n.toNat)) (star (blk p #[v, .int .i64 (cutAt b at_ bad n.toNat), .bool (!cutOk (b.drop at_) bad n.toNat)] 167) L)) := by
  obtain ⟨ab, cb, rfl⟩ := hr.form
  have fp := H.facts
  go_enter Try.func152, Try.ntmps152
  obtain ⟨m, hm⟩ : ∃ m, m = n.toNat := ⟨_, rfl⟩
  go_upto_if 6 with fail
  go_cut [1] (fun s1 wx => s1 = .int .i64 m ∧ wx = w)
  case first =>
    go_wp2_with fail
    · go_meet
      case rel => exact ⟨by rw [show (m : Int) = 0 by omega], rfl⟩
    · go_meet
      case rel => exact ⟨by rw [show (m : Int) = n by omega], rfl⟩
  obtain ⟨rfl, rfl⟩ := hcut
  have HM := Hid.mk' hm
  clear hm
  have hdl : (b.drop at_).length = b.length - at_ := by simp
  by_cases hok : cutOk (b.drop at_) bad m = true
  · obtain ⟨hb1, hm2⟩ : bad = false ∧ m ≤ b.length - at_ := by simpa [cutOk, hdl] using hok
    subst hb1
    have HOK := Hid.mk' hok
    have t1 : (decide ((b.length : Int) - at_ < m)) = false := by simp; omega
    clear hok hdl
    go_wp2_with fail
    go_quiet (fail)
    go_wp2_with fail
    have H2 := (H.drewN nq).set 1 (.int .i64 ((at_ : Int) + m))
    generalize (World.setCell _ _ _) = w2 at H2 ⊢
    obtain ⟨a2, ha2⟩ : ∃ a2, a2 = at_ + m := ⟨_, rfl⟩
    rw [show (at_ : Int) + m = (a2 : Int) by omega] at H2
    clear fp
    obtain ⟨lp, np, cp, zp⟩ := Holds.facts (H2)
    have HA := Hid.mk' ha2
    have e1 : IntKind.i64.wrap ((a2 : Int) - m) = at_ := by rw [IntWalk.i64_in _ (by omega)]; omega
    have i1 : (at_ : Int) ≤ a2 := by omega
    have hB := hr.bounds
    have i2 : (a2 : Int) ≤ cb := by omega
    have i3 : (0 : Int) ≤ at_ := by omega
    have hsub := RdB.sub (hr.world H2) at_ a2 cb (by omega) (by omega) (by omega) (Nat.le_refl _)
    have hlen : ((b.drop at_).take (a2 - at_)).length ≤ 1000000 := by simp; omega
    clear ha2 hB
    have hr4 : RdB ((w2.alloc (.cells #[] tU8)).drew).cell? _ _ := hsub.below ((Below.refl _ _).alloc (Nat.le_refl _) _).drew
    have H3 : Holds _ R (star (rowB _ []) (star (blk p #[.slice ab b.length cb, .int .i64 a2, .bool false] 167) L)) := (freshB H2).drew
    go_region_held3 (fun w' => (∀ o, w'.cell? ⟨p, o, none⟩ = #[.slice ab b.length cb, Value.int .i64 a2, .bool false][o]?)) (first | (exact H4.swap.blkCell) | ((repeat' (first | assumption | (with_reducible refine And.intro ?_ ?_) | (with_reducible refine keep_drew ?_) | (with_reducible refine keep_drewN ?_) | (with_reducible refine keep_alloc ?_ (by first | assumption | (simp only [World.size_alloc, World.size_drew, World.size_setCell]; omega))) | (with_reducible refine keep_set ?_ (by first | assumption | omega)))))) ((refine step_appendB rfl _ _ (by rfl) (by rfl) (by rfl) H3 hr4 (by simp only [List.length_nil]; omega) ?_; intro v4 w4 H4))
    all_goals
      go_wp2_with fail
      go_ret
      have e2 := HA.out
      subst e2
      have e3 := HOK.out
      rw [Nat.add_sub_cancel_left, List.nil_append] at H4
      rw [cutOut, cutAt, ← HM.out, e3]
      exact ⟨_, rfl, H4⟩
  · have hok2 : cutOk (b.drop at_) bad m = false := by simpa using hok
    have HOK := Hid.mk' hok2
    have hgt : bad = false → (b.length : Int) - at_ < m := fun e => by rw [e] at hok2; simp [cutOk] at hok2; omega
    clear hok hok2 hdl
    have fin : ∀ w', Holds w' R (star (blk p #[.slice ab b.length cb, .int .i64 (b.length : Nat), .bool true] 167) L) → Holds w' R (star (rowB (.slice none 0 0) (cutOut (b.drop at_) bad n.toNat)) (star (blk p #[.slice ab b.length cb, .int .i64 (cutAt b at_ bad n.toNat), .bool (!cutOk (b.drop at_) bad n.toNat)] 167) L)) := fun w' h => by
      have e3 := HOK.out
      rw [cutOut, cutAt, ← HM.out, e3]
      exact h.nilRow _ 1
    have FIN := Hid.mk' fin
    clear fin
    cases bad with
    | true =>
      clear hgt
      go_wp2_with fail
      go_quiet (fail)
      go_wp2_with fail
      go_ret
      exact ⟨_, rfl, FIN.out _ (((H.drewN _).set 2 (.bool true)).set 1 (.int .i64 b.length))⟩
    | false =>
      have hgt := hgt rfl
      have t1 : (decide ((b.length : Int) - at_ < m)) = true := by simp; omega
      go_wp2_with fail
      go_quiet (fail)
      go_wp2_with fail
      go_ret
      exact ⟨_, rfl, FIN.out _ (((H.drewN _).set 2 (.bool true)).set 1 (.int .i64 b.length))⟩
theorem refrnum_spec {w : World} {R : Snap} {L : Asrt} {p at_ : Nat} {v : Value} {b : List UInt8} {bad : Bool} {k : Int} (H : Holds w R (star (blk p #[v, .int .i64 at_, .bool bad] 167) L)) (hr : RdB R.cell? v b) (ha : at_ ≤ b.length) (hb : b.length ≤ 1000000) :
    Calls Try.prog 137 #[.pointer (some ⟨p, 0, none⟩), .int .i64 k] w fun e w' => e = .returned (.int .i64 (valB (cutOut (b.drop at_) bad (wid k)))) ∧ Holds w' R (star (blk p #[v, .int .i64 (cutAt b at_ bad (wid k)), .bool (!cutOk (b.drop at_) bad (wid k))] 167) L) := by
  go_enter Try.func137, Try.ntmps137
  go_wp2_with fail
  refine (rwidth_spec _ _).mono ?_
  rintro e w1 ⟨rfl, rfl⟩
  go_wp2_with fail
  refine (refraw_spec H hr ha hb).mono ?_
  rintro e w1 ⟨out, rfl, H1⟩
  rw [Int.toNat_natCast] at H1
  obtain ⟨ao, co, rfl⟩ := H1.rowRd.form
  obtain ⟨l, hl⟩ : ∃ l, l = cutOut (b.drop at_) bad (wid k) := ⟨_, rfl⟩
  rw [← hl] at H1
  have HL := Hid.mk' hl
  have hl4 : l.length ≤ 4 := by
    have := wid_bd k
    rw [hl, cutOut]; split <;> simp; omega
  rw [← hl]
  clear hl
  have h2 : RdB w1.cell? (.slice ao l.length co) l := H1.rowRd
  go_wp2_with fail
  go_loop [6, 7] (fun n i => ∃ j : Nat, i = .int .i64 j ∧ j ≤ l.length ∧ n = .int .i64 (valB (l.take j))) (fun _ i => l.length - (intOf i).toNat)
  case atStart => exact ⟨0, rfl, Nat.zero_le _, rfl⟩
  case round =>
    obtain ⟨j, rfl, hj, rfl⟩ := hrel
    by_cases hlt : j < l.length
    · obtain ⟨bo, oo, rfl, hc⟩ := RdB.open h2 (by omega)
      have cj := hc j hlt
      have hval := valB_succ l j hlt
      generalize l[j] = x at cj hval
      have hx := u8_lt x
      have hv := valB_lt (l.take j)
      have hv3 : valB (l.take j) < 16777216 := by
        have h3 : (l.take j).length ≤ 3 := by simp; omega
        exact Nat.lt_of_lt_of_le hv (Nat.pow_le_pow_right (n := 256) (by decide) h3)
      generalize valB (l.take j) = y at *
      have HV := Hid.mk' hval
      clear hval hc hv
      go_wp2_with fail
      go_round
      case rel => exact ⟨j + 1, by go_num, hlt, by rw [HV.out]; go_num⟩
      case measure => simp [intOf]; omega
    · go_wp2_with fail
      go_ret
      rw [List.take_of_length_le (by omega), HL.out]
      exact ⟨rfl, H1.drop⟩
theorem cutAt_le {b : List UInt8} {a n : Nat} {bad : Bool} (h : a ≤ b.length) : cutAt b a bad n ≤ b.length := by
  unfold cutAt; split
  · rename_i h1; simp [cutOk] at h1; omega
  · exact Nat.le_refl _
theorem drop_cutAt {b : List UInt8} {a n : Nat} {bad : Bool} : b.drop (cutAt b a bad n) = cutRest (b.drop a) bad n := by
  unfold cutAt cutRest; split
  · rw [List.drop_drop]
  · simp
theorem refrtext_spec {w : World} {R : Snap} {L : Asrt} {p at_ : Nat} {v : Value} {b : List UInt8} {bad : Bool} (H : Holds w R (star (blk p #[v, .int .i64 at_, .bool bad] 167) L)) (hr : RdB R.cell? v b) (ha : at_ ≤ b.length) (hb : b.length ≤ 1000000) :
    Calls Try.prog 138 #[.pointer (some ⟨p, 0, none⟩)] w fun e w' => ∃ out, e = .returned out ∧ Holds w' R (star (rowB out (cutOut (cutRest (b.drop at_) bad 1) (!cutOk (b.drop at_) bad 1) (valB (cutOut (b.drop at_) bad 1)))) (star (blk p #[v, .int .i64 (cutAt b (cutAt b at_ bad 1) (!cutOk (b.drop at_) bad 1) (valB (cutOut (b.drop at_) bad 1))), .bool (!cutOk (cutRest (b.drop at_) bad 1) (!cutOk (b.drop at_) bad 1) (valB (cutOut (b.drop at_) bad 1)))] 167) L)) := by
  go_enter Try.func138, Try.ntmps138
  go_wp2_with fail
  refine (refrnum_spec H hr ha hb).mono ?_
  rintro e w1 ⟨rfl, H1⟩
  rw [show wid 1 = 1 from rfl] at H1 ⊢
  go_wp2_with fail
  refine (refraw_spec H1 hr (cutAt_le ha) hb).mono ?_
  rintro e w2 ⟨out, rfl, H2⟩
  rw [Int.toNat_natCast, drop_cutAt] at H2
  go_wp2_with fail
  go_ret
  exact ⟨_, rfl, H2⟩
end Sh
/- label.Right and sherdref07.Right. -/
set_option linter.unusedVariables false
set_option linter.unusedSimpArgs false
namespace Sh
open Go Go.RowKit Go.Proofs
attribute [local go_sem ↓] Go.wp_at_zero Go.wp_at_succ
set_option maxHeartbeats 1000000
set_option maxRecDepth 100000

def signI (c : Int) : Bool := decide ((97 ≤ c ∧ c ≤ 122) ∨ (48 ≤ c ∧ c ≤ 57) ∨ c = 45)
def nameL (l : List UInt8) : Bool := decide (1 ≤ l.length ∧ l.length ≤ 16 ∧ l.getD 0 0 ≠ 45 ∧ ∀ c ∈ l, signI c.toNat = true)
abbrev nameOk (s : ByteArray) : Bool := nameL s.data.toList
theorem sign_spec (c : Int) (h0 : 0 ≤ c) (h : c ≤ 255) (w : World) : Calls Try.prog 178 #[.int .u8 c] w fun e w' => e = .returned (.bool (signI c)) ∧ w = w' := by
  by_cases h1 : 97 ≤ c
  · by_cases h2 : c ≤ 122
    · rw [show signI c = true from by simp [signI]; omega]
      go_enter Try.func178, Try.ntmps178
      go_wp2_with fail
      go_ret
      exact ⟨rfl, rfl⟩
    · have t2 : decide (c ≤ 122) = false := by simpa using h2
      have t5 : (c == 45) = false := by simp; omega
      have t6 : decide (c ≤ 57) = false := by simp; omega
      rw [show signI c = false from by rw [Bool.eq_false_iff]; simp [signI]; omega]
      go_enter Try.func178, Try.ntmps178
      go_wp2_with fail
      go_ret
      exact ⟨rfl, rfl⟩
  · have t1 : decide (97 ≤ c) = false := by simpa using h1
    by_cases h3 : 48 ≤ c
    · by_cases h4 : c ≤ 57
      · rw [show signI c = true from by simp [signI]; omega]
        go_enter Try.func178, Try.ntmps178
        go_wp2_with fail
        go_ret
        exact ⟨rfl, rfl⟩
      · have t4 : decide (c ≤ 57) = false := by simpa using h4
        rw [show signI c = (c == 45) from by rw [Bool.eq_iff_iff]; simp [signI]; omega]
        go_enter Try.func178, Try.ntmps178
        go_wp2_with fail
        go_ret
        exact ⟨rfl, rfl⟩
    · have t3 : decide (48 ≤ c) = false := by simpa using h3
      rw [show signI c = (c == 45) from by rw [Bool.eq_iff_iff]; simp [signI]; omega]
      go_enter Try.func178, Try.ntmps178
      go_wp2_with fail
      go_ret
      exact ⟨rfl, rfl⟩
theorem nameL_no {l : List UInt8} {j : Nat} (h : j < l.length) (hs : signI (l[j].toNat : Int) = false) : nameL l = false := by
  rw [nameL, decide_eq_false_iff_not]
  intro h2
  have := h2.2.2.2 _ (List.getElem_mem h)
  rw [hs] at this; cases this
theorem nameL_all {l : List UInt8} (h1 : 1 ≤ l.length) (h2 : l.length ≤ 16) (h3 : l.getD 0 0 ≠ 45) (h : ∀ j (h : j < l.length), signI (l[j].toNat : Int) = true) : nameL l = true := by
  rw [nameL, decide_eq_true_eq]
  refine ⟨h1, h2, h3, fun c hc => ?_⟩
  obtain ⟨j, hj, rfl⟩ := List.getElem_of_mem hc
  exact h j hj
theorem right_spec {s : ByteArray} (hs : s.size ≤ maxLen) (w : World) : Calls Try.prog 105 #[.string s] w fun e w' => e = .returned (.bool (nameOk s)) ∧ w = w' := by
  unfold maxLen at hs
  obtain ⟨l, hl⟩ : ∃ l, l = s.data.toList := ⟨_, rfl⟩
  have hls : l.length = s.size := by rw [hl]; simp
  unfold nameOk
  rw [← hl]
  by_cases h0 : s.size = 0
  · have t0 : s.toList = [] := by
      rw [ByteArray.toList_eq]; exact List.eq_nil_of_length_eq_zero (by simpa using h0)
    have t1 : (!s.toList.isEmpty) = false := by rw [t0]; rfl
    have e1 : nameL l = false := by rw [nameL, decide_eq_false_iff_not]; omega
    rw [e1]
    clear e1 hls hl
    go_enter Try.func105, Try.ntmps105
    go_wp2_with fail
    go_ret
    exact ⟨rfl, rfl⟩
  · have t1 : s.toList.isEmpty = false := by
      rw [ByteArray.toList_eq]
      cases h : s.data.toList with
      | nil => rw [hl, h] at hls; simp at hls; omega
      | cons a t => rfl
    by_cases h16 : s.size ≤ 16
    · have t2 : decide ((16 : Int) < s.size) = false := by simp; omega
      have hs1 : 1 ≤ s.size := by omega
      have hget : ∀ j (h : j < s.size) (h' : j < l.length), l[j] = s[j] := fun j h h' => by simp only [hl]; rfl
      have HG := Hid.mk' hget
      have HLS := Hid.mk' hls
      have hd0 : l.getD 0 0 = s[0] := by rw [← hget 0 (by omega) (by omega), List.getD, List.getElem?_eq_getElem (by omega)]; rfl
      have HD0 := Hid.mk' hd0
      clear hget hls hl hd0
      by_cases hd : s[0] = 45
      · have t3 : ((s[0].toNat : Int) == 45) = true := by rw [hd]; rfl
        have e1 : nameL l = false := by rw [nameL, decide_eq_false_iff_not]; intro h; exact h.2.2.1 (HD0.out.trans hd)
        rw [e1]
        clear e1 hd
        go_enter Try.func105, Try.ntmps105
        go_wp2_with fail
        go_ret
        exact ⟨rfl, rfl⟩
      · have t3 : ((s[0].toNat : Int) == 45) = false := by
          rw [Bool.eq_false_iff]; intro h; apply hd; apply UInt8.toNat_inj.1
          have := beq_iff_eq.1 h; rw [show (45 : UInt8).toNat = 45 from rfl]; omega
        have HD := Hid.mk' hd
        clear hd
        go_enter Try.func105, Try.ntmps105
        go_wp2_with fail
        go_loop [18] (fun i => ∃ j : Nat, i = .int .i64 j ∧ j ≤ s.size ∧ Hid (∀ k (h : k < l.length), k < j → signI (l[k].toNat : Int) = true)) (fun i => s.size - (intOf i).toNat)
        case atStart => exact ⟨0, rfl, Nat.zero_le _, Hid.mk' fun k _ h => by omega⟩
        case round =>
          obtain ⟨j, rfl, hj, hall⟩ := hrel
          by_cases hlt : j < s.size
          · have hjl : j < l.length := by rw [HLS.out]; exact hlt
            have hx := u8_lt s[j]
            have hsg := sign_spec (s[j].toNat : Int) (by omega) (by omega) w
            have hno : Hid (signI (s[j].toNat : Int) = false → nameL l = false) := Hid.mk' fun h => nameL_no hjl (by rw [HG.out j hlt hjl]; exact h)
            have hyes : Hid (signI (s[j].toNat : Int) = true → ∀ k (h : k < l.length), k < j + 1 → signI (l[k].toNat : Int) = true) := Hid.mk' fun h k hk hkj => by
              rcases Nat.lt_or_ge k j with h2 | h2
              · exact hall.out k hk h2
              · obtain rfl : k = j := by omega
                rw [HG.out k hlt hk]; exact h
            cases hc : signI (s[j].toNat : Int) with
            | true =>
              rw [hc] at hsg
              have hy2 := Hid.mk' (hyes.out hc)
              clear hc hno hyes
              go_wp2_with fail
              refine hsg.mono ?_
              rintro e w1 ⟨rfl, rfl⟩
              go_wp2_with fail
              go_round
              case rel => exact ⟨j + 1, by go_num, hlt, hy2⟩
              case measure => simp [intOf]; omega
            | false =>
              rw [hc] at hsg
              have hn2 := Hid.mk' (hno.out hc)
              clear hc hno hyes
              go_wp2_with fail
              refine hsg.mono ?_
              rintro e w1 ⟨rfl, rfl⟩
              go_wp2_with fail
              go_ret
              exact ⟨ret_bool hn2.out.symm, rfl⟩
          · go_wp2_with fail
            go_ret
            refine ⟨ret_bool (nameL_all (by rw [HLS.out]; exact hs1) (by rw [HLS.out]; exact h16) (by rw [HD0.out]; exact HD.out) fun k hk => ?_).symm, rfl⟩
            exact hall.out k hk (by have := HLS.out; omega)
    · have t2 : decide ((16 : Int) < s.size) = true := by simp; omega
      have e1 : nameL l = false := by rw [nameL, decide_eq_false_iff_not]; omega
      rw [e1]
      clear e1 hls hl
      go_enter Try.func105, Try.ntmps105
      go_wp2_with fail
      go_ret
      exact ⟨rfl, rfl⟩
theorem rright_spec {s : ByteArray} (hs : s.size ≤ maxLen) (w : World) : Calls Try.prog 106 #[.string s] w fun e w' => e = .returned (.bool (nameOk s)) ∧ w = w' := by
  unfold maxLen at hs
  obtain ⟨l, hl⟩ : ∃ l, l = s.data.toList := ⟨_, rfl⟩
  have hls : l.length = s.size := by rw [hl]; simp
  unfold nameOk
  rw [← hl]
  by_cases h0 : s.size < 1
  · have e1 : nameL l = false := by rw [nameL, decide_eq_false_iff_not]; omega
    rw [e1]
    clear e1 hls hl
    go_enter Try.func106, Try.ntmps106
    go_wp2_with fail
    go_ret
    exact ⟨rfl, rfl⟩
  · have t1 : decide ((s.size : Int) < 1) = false := by simp; omega
    by_cases h16 : s.size ≤ 16
    · have t2 : decide ((16 : Int) < s.size) = false := by simp; omega
      have hs1 : 1 ≤ s.size := by omega
      have hget : ∀ j (h : j < s.size) (h' : j < l.length), l[j] = s[j] := fun j h h' => by simp only [hl]; rfl
      have HG := Hid.mk' hget
      have HLS := Hid.mk' hls
      clear hget hls hl
      go_enter Try.func106, Try.ntmps106
      go_wp2_with fail
      go_loop [3] (fun i => ∃ j : Nat, i = .int .i64 j ∧ j ≤ s.size ∧ Hid ((0 < j → l.getD 0 0 ≠ 45) ∧ ∀ k (h : k < l.length), k < j → signI (l[k].toNat : Int) = true)) (fun i => s.size - (intOf i).toNat)
      case atStart => exact ⟨0, rfl, Nat.zero_le _, Hid.mk' ⟨fun h => by omega, fun k _ h => by omega⟩⟩
      case round =>
        obtain ⟨j, rfl, hj, hall⟩ := hrel
        by_cases hlt : j < s.size
        · have hjl : j < l.length := by rw [HLS.out]; exact hlt
          have hx := u8_lt s[j]
          have hno : Hid (signI (s[j].toNat : Int) = false → nameL l = false) := Hid.mk' fun h => nameL_no hjl (by rw [HG.out j hlt hjl]; exact h)
          have hyes : Hid (signI (s[j].toNat : Int) = true → (j = 0 → (s[j].toNat : Int) ≠ 45) → (0 < j + 1 → l.getD 0 0 ≠ 45) ∧ ∀ k (h : k < l.length), k < j + 1 → signI (l[k].toNat : Int) = true) := Hid.mk' fun h h4 => ⟨fun _ => by
            rcases Nat.eq_zero_or_pos j with h5 | h5
            · subst h5
              rw [List.getD, List.getElem?_eq_getElem hjl, Option.getD_some, HG.out 0 hlt hjl]
              intro h6; exact h4 rfl (by rw [h6]; rfl)
            · exact hall.out.1 h5, fun k hk hkj => by
            rcases Nat.lt_or_ge k j with h2 | h2
            · exact hall.out.2 k hk h2
            · obtain rfl : k = j := by omega
              rw [HG.out k hlt hk]; exact h⟩
          have hbad0 : Hid (j = 0 → (s[j].toNat : Int) = 45 → nameL l = false) := Hid.mk' fun h1 h2 => by
            subst h1
            rw [nameL, decide_eq_false_iff_not]
            intro h
            apply h.2.2.1
            rw [List.getD, List.getElem?_eq_getElem hjl, Option.getD_some, HG.out 0 hlt hjl]
            apply UInt8.toNat_inj.1; rw [show (45 : UInt8).toNat = 45 from rfl]; omega
          have hc0 : (0 : Int) ≤ (s[j].toNat : Int) := by omega
          by_cases ha : 97 ≤ (s[j].toNat : Int) ∧ (s[j].toNat : Int) ≤ 122
          · obtain ⟨ha1, ha2⟩ := ha
            have tb : decide (48 ≤ (s[j].toNat : Int)) = true := by simp; omega
            have tb2 : decide ((s[j].toNat : Int) ≤ 57) = false := by simp; omega
            have hy2 := Hid.mk' (hyes.out (by simp [signI]; omega) (by omega))
            clear hno hyes hbad0
            go_wp2_with fail
            go_round
            case rel => exact ⟨j + 1, by go_num, hlt, hy2⟩
            case measure => simp [intOf]; omega
          · have hnl : decide (97 ≤ (s[j].toNat : Int)) = false ∨ (decide (97 ≤ (s[j].toNat : Int)) = true ∧ decide ((s[j].toNat : Int) ≤ 122) = false) := by simp; omega
            by_cases hb : 48 ≤ (s[j].toNat : Int) ∧ (s[j].toNat : Int) ≤ 57
            · obtain ⟨hb1, hb2⟩ := hb
              have tb : decide (97 ≤ (s[j].toNat : Int)) = false := by simp; omega
              have hy2 := Hid.mk' (hyes.out (by simp [signI]; omega) (by omega))
              clear hno hyes hbad0 ha hnl
              go_wp2_with fail
              go_round
              case rel => exact ⟨j + 1, by go_num, hlt, hy2⟩
              case measure => simp [intOf]; omega
            · have hnd : decide (48 ≤ (s[j].toNat : Int)) = false ∨ (decide (48 ≤ (s[j].toNat : Int)) = true ∧ decide ((s[j].toNat : Int) ≤ 57) = false) := by simp; omega
              by_cases h45 : (s[j].toNat : Int) = 45
              · have t97 : decide (97 ≤ (s[j].toNat : Int)) = false := by simp; omega
                have t48 : decide (48 ≤ (s[j].toNat : Int)) = false := by simp; omega
                by_cases hj0 : j = 0
                · have hn2 := Hid.mk' (hbad0.out hj0 h45)
                  have t45 : ((s[j].toNat : Int) != 45) = false := by rw [h45]; rfl
                  have tj : (((j : Nat) : Int) == 0) = true := by simp [hj0]
                  clear h45 hj0
                  clear hno hyes hbad0 ha hb hnl hnd
                  go_wp2_with fail
                  go_ret
                  exact ⟨ret_bool hn2.out.symm, rfl⟩
                · have hy2 := Hid.mk' (hyes.out (by simp [signI]; omega) (by omega))
                  have tj : (((j : Nat) : Int) == 0) = false := by simp; omega
                  clear hj0
                  have t45 : ((s[j].toNat : Int) != 45) = false := by rw [h45]; rfl
                  clear h45
                  clear hno hyes hbad0 ha hb hnl hnd
                  go_wp2_with fail
                  go_round
                  case rel => exact ⟨j + 1, by go_num, hlt, hy2⟩
                  case measure => simp [intOf]; omega
              · have t45 : ((s[j].toNat : Int) != 45) = true := by rw [bne_iff_ne]; exact h45
                have hn2 := Hid.mk' (hno.out (by rw [Bool.eq_false_iff]; simp [signI]; omega))
                clear hno hyes hbad0 ha hb
                rcases hnl with hnl | ⟨hnl, hnl2⟩ <;> rcases hnd with hnd | ⟨hnd, hnd2⟩
                all_goals
                  go_wp2_with fail
                  go_ret
                  exact ⟨ret_bool hn2.out.symm, rfl⟩
        · go_wp2_with fail
          go_ret
          refine ⟨ret_bool (nameL_all (by rw [HLS.out]; exact hs1) (by rw [HLS.out]; exact h16) (hall.out.1 (by omega)) fun k hk => ?_).symm, rfl⟩
          exact hall.out.2 k hk (by have := HLS.out; omega)
    · have t2 : decide ((16 : Int) < s.size) = true := by simp; omega
      have e1 : nameL l = false := by rw [nameL, decide_eq_false_iff_not]; omega
      rw [e1]
      clear e1 hls hl
      go_enter Try.func106, Try.ntmps106
      go_wp2_with fail
      go_ret
      exact ⟨rfl, rfl⟩
end Sh
/- msg: 'in'; slices.ContainsFunc of numbers and of texts. -/
set_option linter.unusedVariables false
set_option linter.unusedSimpArgs false
namespace Sh
open Go Go.RowKit Go.Proofs
attribute [local go_sem ↓] Go.wp_at_zero Go.wp_at_succ
set_option maxHeartbeats 1000000
set_option maxRecDepth 100000

abbrev tInt : TypeId := 3
/-- A slice that reads as numbers; as texts. -/
abbrev RdI (c : Addr → Option Value) (v : Value) (l : List Int) : Prop := Rd c 1 v l.length (l.map (Value.int .i64))
abbrev RdS (c : Addr → Option Value) (v : Value) (l : List ByteArray) : Prop := Rd c 1 v l.length (l.map Value.string)
theorem str_nil {s : ByteArray} (h : s.size = 0) : s.toList = [] := by rw [ByteArray.toList_eq]; exact List.eq_nil_of_length_eq_zero (by simpa using h)
theorem str_some {s : ByteArray} (h : 0 < s.size) : s.toList.isEmpty = false := by
  rw [ByteArray.toList_eq]
  cases h2 : s.data.toList with
  | nil => have : s.data.toList.length = s.size := by simp
           rw [h2] at this; simp at this; omega
  | cons a t => rfl
def inOne (hi n : Int) : Bool := decide (0 ≤ n) && decide (n ≤ hi)
def inAll (hi : Int) (l : List Int) : Bool := l.all (inOne hi)
theorem all_take {α : Type} (p : α → Bool) : ∀ (l : List α) (j : Nat) (h : j < l.length), p l[j] = false → l.all p = false
  | x :: l, 0, _, e => by simp only [List.getElem_cons_zero] at e; simp [e]
  | x :: l, j + 1, h, e => by
    have := all_take p l j (by simpa using h) (by simpa using e)
    simp only [List.all_cons, this, Bool.and_false]
theorem all_upto {α : Type} (p : α → Bool) (l : List α) (h : ∀ k (hk : k < l.length), p l[k] = true) : l.all p = true := by
  rw [List.all_eq_true]
  intro x hx
  obtain ⟨k, hk, rfl⟩ := List.getElem_of_mem hx
  exact h k hk
theorem rdI_at {c : Addr → Option Value} {a : Option Addr} {n cap : Nat} {l : List Int} (h : RdI c (.slice a n cap) l) {j : Nat} (hj : j < l.length) : ∃ b o, a = some ⟨b, o, none⟩ ∧ c ⟨b, o + j, none⟩ = some (.int .i64 l[j]) := by
  have e : n = l.length := by
    obtain ⟨a', cap', e1, _⟩ := h
    simp only [Value.slice.injEq] at e1; exact e1.2.1
  subst e
  obtain ⟨b, o, rfl, hc⟩ := h.open (by omega)
  exact ⟨b, o, rfl, hc j _ (by simp [hj])⟩
theorem rdS_at {c : Addr → Option Value} {a : Option Addr} {n cap : Nat} {l : List ByteArray} (h : RdS c (.slice a n cap) l) {j : Nat} (hj : j < l.length) : ∃ b o, a = some ⟨b, o, none⟩ ∧ c ⟨b, o + j, none⟩ = some (.string l[j]) := by
  have e : n = l.length := by
    obtain ⟨a', cap', e1, _⟩ := h
    simp only [Value.slice.injEq] at e1; exact e1.2.1
  subst e
  obtain ⟨b, o, rfl, hc⟩ := h.open (by omega)
  exact ⟨b, o, rfl, hc j _ (by simp [hj])⟩

theorem in1_spec {w : World} {R : Snap} {L : Asrt} {hi n : Int} {b : Nat} {fr : Nat × Nat} (H : Holds w R L) (hb : R.blk b = some (.cells #[.int .i64 hi] tInt fr)) :
    Calls Try.prog 185 #[.int .i64 n, .pointer (some ⟨b, 0, none⟩)] w fun e w' => e = .returned (.bool (!inOne hi n)) ∧ Holds w' R L := by
  obtain ⟨l1, n1, c1⟩ := Holds.frzFacts (H) hb
  by_cases h0 : n < 0
  · have e1 : (!inOne hi n) = true := by simp [inOne]; omega
    rw [e1]
    have t0 : decide (n < 0) = true := by simpa using h0
    go_enter Try.func185, Try.ntmps185
    go_wp2_with fail
    go_ret
    exact ⟨rfl, H⟩
  · have t0 : decide (n < 0) = false := by simpa using h0
    have e1 : (!inOne hi n) = decide (hi < n) := by
      by_cases h : hi < n
      · simp only [inOne]; rw [Bool.eq_iff_iff]; simp; omega
      · simp only [inOne]; rw [Bool.eq_iff_iff]; simp; omega
    rw [e1]
    go_enter Try.func185, Try.ntmps185
    go_wp2_with fail
    go_ret
    exact ⟨rfl, H⟩
theorem idxInt_spec {w : World} {R : Snap} {L : Asrt} {v : Value} {l : List Int} {hi : Int} {b : Nat} {fr : Nat × Nat} (H : Holds w R L) (hr : ∀ w', Holds w' R L → RdI w'.cell? v l) (hl : l.length ≤ 1000000) (hb : R.blk b = some (.cells #[.int .i64 hi] tInt fr)) :
    Calls Try.prog 196 #[v, .func (.func 185) #[] #[.pointer (some ⟨b, 0, none⟩)]] w fun e w' => ∃ k, e = .returned (.int .i64 k) ∧ decide (0 ≤ k) = !inAll hi l ∧ Holds w' R L := by
  obtain ⟨a, c, rfl⟩ := (hr w H).form
  obtain ⟨n, hn⟩ : ∃ n, n = l.length := ⟨_, rfl⟩
  have HR := Hid.mk' hr
  have HN := Hid.mk' hn
  rw [← hn] at hl ⊢
  clear hn hr
  go_enter Try.func196, Try.ntmps196
  go_wp2_with fail
  go_loopw [8] (fun i wx => ∃ j : Nat, i = .int .i64 j ∧ j ≤ n ∧ Hid (∀ k (h : k < l.length), k < j → inOne hi l[k] = true) ∧ Holds wx R L) (fun i _ => n - (intOf i).toNat)
  case atStart => exact ⟨0, rfl, Nat.zero_le _, Hid.mk' (fun k _ h => absurd h (Nat.not_lt_zero k)), H⟩
  case round =>
    clear H
    obtain ⟨j, rfl, hj, hA, H1⟩ := hrel
    by_cases hlt : j < n
    · have hjl : j < l.length := by rw [← HN.out]; exact hlt
      obtain ⟨b1, o1, ha, hc⟩ := rdI_at (HR.out _ H1) hjl
      subst ha
      obtain ⟨x, hx⟩ : ∃ x, x = l[j] := ⟨_, rfl⟩
      rw [← hx] at hc
      have HX := Hid.mk' hx
      clear hx
      go_wp2_with fail
      refine (in1_spec (n := x) H1 hb).mono ?_
      rintro e w2 ⟨rfl, H2⟩
      by_cases hok : inOne hi x = true
      · rw [hok]
        go_wp2_with fail
        go_roundw
        case rel =>
          refine ⟨j + 1, by go_num, hlt, Hid.mk' (fun k h1 h2 => ?_), H2⟩
          rcases Nat.lt_or_ge k j with h3 | h3
          · exact hA.out k h1 h3
          · obtain rfl : k = j := by omega
            rw [← HX.out]; exact hok
        case measure => simp [intOf]; omega
      · rw [Bool.not_eq_true] at hok
        rw [hok]
        go_wp2_with fail
        go_ret
        refine ⟨_, rfl, ?_, H2⟩
        rw [inAll, all_take (inOne hi) l j hjl (by rw [← HX.out]; exact hok)]
        simp
    · go_wp2_with fail
      go_ret
      refine ⟨_, rfl, ?_, H1⟩
      rw [inAll, all_upto (inOne hi) l (fun k hk => hA.out k hk (by have := HN.out; omega))]
      rfl
theorem hasInt_spec {w : World} {R : Snap} {L : Asrt} {v : Value} {l : List Int} {hi : Int} {b : Nat} {fr : Nat × Nat} (H : Holds w R L) (hr : ∀ w', Holds w' R L → RdI w'.cell? v l) (hl : l.length ≤ 1000000) (hb : R.blk b = some (.cells #[.int .i64 hi] tInt fr)) :
    Calls Try.prog 184 #[v, .func (.func 185) #[] #[.pointer (some ⟨b, 0, none⟩)]] w fun e w' => e = .returned (.bool (!inAll hi l)) ∧ Holds w' R L := by
  obtain ⟨a, c, rfl⟩ := (hr w H).form
  go_enter Try.func184, Try.ntmps184
  go_wp2_with fail
  refine (idxInt_spec H hr hl hb).mono ?_
  rintro e w2 ⟨k, rfl, hk, H2⟩
  go_wp2_with fail
  go_ret
  exact ⟨rfl, H2⟩
theorem in_spec {w : World} {R : Snap} {L : Asrt} {v : Value} {l : List Int} {hi : Int} (H : Holds w R L) (hr : ∀ w', Holds w' R L → RdI w'.cell? v l) (hl : l.length ≤ 1000000) :
    Calls Try.prog 119 #[.int .i64 hi, v] w fun e w' => e = .returned (.bool (inAll hi l)) ∧ Holds w' R L := by
  obtain ⟨a, c, rfl⟩ := (hr w H).form
  obtain ⟨R1, le1, H1, hb⟩ := H.allocR (.cells #[.int .i64 hi] tInt (0, 0))
  go_enter Try.func119, Try.ntmps119
  go_wp2_with fail
  refine (hasInt_spec H1 (fun w' h => hr w' (h.weaken le1)) hl hb).mono ?_
  rintro e w2 ⟨rfl, H2⟩
  go_wp2_with fail
  go_ret
  exact ⟨by simp, H2.weaken le1⟩

theorem bad1_spec {w : World} {R : Snap} {L : Asrt} {s : ByteArray} (H : Holds w R L) (hs : s.size ≤ maxLen) :
    Calls Try.prog 121 #[.string s] w fun e w' => e = .returned (.bool (!nameOk s)) ∧ Holds w' R L := by
  have hR := right_spec hs
  go_enter Try.func121, Try.ntmps121
  go_wp2_with fail
  refine (hR _).mono ?_
  rintro e w2 ⟨rfl, rfl⟩
  go_wp2_with fail
  go_ret
  exact ⟨rfl, H⟩
theorem idxStr_spec {w : World} {R : Snap} {L : Asrt} {v : Value} {l : List ByteArray} (H : Holds w R L) (hr : ∀ w', Holds w' R L → RdS w'.cell? v l) (hl : l.length ≤ 1000000) (hs : ∀ s ∈ l, s.size ≤ maxLen) :
    Calls Try.prog 186 #[v, .func (.func 121) #[] #[]] w fun e w' => ∃ k, e = .returned (.int .i64 k) ∧ decide (0 ≤ k) = !l.all nameOk ∧ Holds w' R L := by
  obtain ⟨a, c, rfl⟩ := (hr w H).form
  obtain ⟨n, hn⟩ : ∃ n, n = l.length := ⟨_, rfl⟩
  have HR := Hid.mk' hr
  have HN := Hid.mk' hn
  rw [← hn] at hl ⊢
  clear hn hr
  go_enter Try.func186, Try.ntmps186
  go_wp2_with fail
  go_loopw [8] (fun i wx => ∃ j : Nat, i = .int .i64 j ∧ j ≤ n ∧ Hid (∀ k (h : k < l.length), k < j → nameOk l[k] = true) ∧ Holds wx R L) (fun i _ => n - (intOf i).toNat)
  case atStart => exact ⟨0, rfl, Nat.zero_le _, Hid.mk' (fun k _ h => absurd h (Nat.not_lt_zero k)), H⟩
  case round =>
    clear H
    obtain ⟨j, rfl, hj, hA, H1⟩ := hrel
    by_cases hlt : j < n
    · have hjl : j < l.length := by rw [← HN.out]; exact hlt
      obtain ⟨b1, o1, ha, hc⟩ := rdS_at (HR.out _ H1) hjl
      subst ha
      have hsx := hs l[j] (List.getElem_mem hjl)
      obtain ⟨x, hx⟩ : ∃ x, x = l[j] := ⟨_, rfl⟩
      rw [← hx] at hc hsx
      have HX := Hid.mk' hx
      clear hx
      go_wp2_with fail
      refine (bad1_spec H1 hsx).mono ?_
      rintro e w2 ⟨rfl, H2⟩
      by_cases hok : nameOk x = true
      · rw [hok]
        go_wp2_with fail
        go_roundw
        case rel =>
          refine ⟨j + 1, by go_num, hlt, Hid.mk' (fun k h1 h2 => ?_), H2⟩
          rcases Nat.lt_or_ge k j with h3 | h3
          · exact hA.out k h1 h3
          · obtain rfl : k = j := by omega
            rw [← HX.out]; exact hok
        case measure => simp [intOf]; omega
      · rw [Bool.not_eq_true] at hok
        rw [hok]
        go_wp2_with fail
        go_ret
        refine ⟨_, rfl, ?_, H2⟩
        rw [all_take nameOk l j hjl (by rw [← HX.out]; exact hok)]
        simp
    · go_wp2_with fail
      go_ret
      refine ⟨_, rfl, ?_, H1⟩
      rw [all_upto nameOk l (fun k hk => hA.out k hk (by have := HN.out; omega))]
      rfl
theorem hasStr_spec {w : World} {R : Snap} {L : Asrt} {v : Value} {l : List ByteArray} (H : Holds w R L) (hr : ∀ w', Holds w' R L → RdS w'.cell? v l) (hl : l.length ≤ 1000000) (hs : ∀ s ∈ l, s.size ≤ maxLen) :
    Calls Try.prog 120 #[v, .func (.func 121) #[] #[]] w fun e w' => e = .returned (.bool (!l.all nameOk)) ∧ Holds w' R L := by
  obtain ⟨a, c, rfl⟩ := (hr w H).form
  go_enter Try.func120, Try.ntmps120
  go_wp2_with fail
  refine (idxStr_spec H hr hl hs).mono ?_
  rintro e w2 ⟨k, rfl, hk, H2⟩
  go_wp2_with fail
  go_ret
  exact ⟨rfl, H2⟩
end Sh
