/- The packer (layer 6): contracts of the reader. -/
import Derived.Test.YtmogagcffebbaaaPack
set_option linter.unusedVariables false
set_option linter.unusedSimpArgs false
namespace Sh
open Go Go.RowKit Go.Proofs
attribute [local go_sem ↓] Go.wp_at_zero Go.wp_at_succ
set_option maxHeartbeats 1000000
set_option maxRecDepth 100000

def cutOk (rest : List UInt8) (bad : Bool) (n : Nat) : Bool := !bad && decide (n ≤ rest.length)
def cutOut (rest : List UInt8) (bad : Bool) (n : Nat) : List UInt8 := if cutOk rest bad n then rest.take n else []
def cutRest (rest : List UInt8) (bad : Bool) (n : Nat) : List UInt8 := if cutOk rest bad n then rest.drop n else []
def valB (l : List UInt8) : Nat := l.foldl (fun a c => a * 256 + c.toNat) 0

theorem cut_spec {w : World} {R : Snap} {L : Asrt} {p : Nat} {v : Value} {rest : List UInt8} {bad : Bool} {n : Int} (H : Holds w R (star (blk p #[v, .bool bad] 211) L)) (hr : RdB R.cell? v rest) :
    Calls Try.prog 187 #[.pointer (some ⟨p, 0, none⟩), .int .i64 n] w fun e w' => ∃ out v', e = .returned out ∧ Holds w' R (star (blk p #[v', .bool (!cutOk rest bad n.toNat)] 211) L) ∧ RdB R.cell? v' (cutRest rest bad n.toNat) ∧ RdB R.cell? out (cutOut rest bad n.toNat) := by
  obtain ⟨a, c, rfl⟩ := hr.form
  have fp := H.facts
  obtain ⟨m, hm⟩ : ∃ m, m = n.toNat := ⟨_, rfl⟩
  have e1 : max n 0 = (m : Int) := by omega
  have hB := hr.bounds
  rw [← hm]
  clear hm
  by_cases hb : bad = true
  · subst hb
    go_enter Try.func187, Try.ntmps187
    go_wp2_with fail
    go_ret
    exact ⟨_, _, rfl, (H.set 0 (.slice none 0 0)).set 1 (.bool true), Rd.nil, Rd.nil⟩
  · obtain rfl : bad = false := by simpa using hb
    by_cases hn : m ≤ rest.length
    · have t1 : (decide ((rest.length : Int) < m)) = false := by simp; omega
      have hok : cutOk rest false m = true := by simp [cutOk, hn]
      have i1 : (m : Int) ≤ rest.length := by omega
      have i2 : (m : Int) ≤ c := by omega
      have h1 := RdB.sub hr m rest.length c hn (Nat.le_refl _) hB.1 (Nat.le_refl _)
      have h2 : RdB R.cell? (.slice a m m) (rest.take m) := by
        have e : (rest.take m).length = m := by simp; omega
        have h := RdB.pre hr m hn
        simp only [RdB, e] at h ⊢
        exact h.subCap m (Nat.le_refl _) (by omega)
      have HO := Hid.mk' hok
      clear hB hok
      go_enter Try.func187, Try.ntmps187
      go_wp2_with fail
      go_ret
      have e2 := HO.out
      rw [cutRest, cutOut, e2]
      rw [List.take_of_length_le (by simp)] at h1
      exact ⟨_, _, rfl, H.set 0 (.slice (adr a c m 1) (rest.length - m) (c - m)), h1, h2⟩
    · have t1 : (decide ((rest.length : Int) < m)) = true := by simp; omega
      have hok : cutOk rest false m = false := by simp [cutOk]; omega
      have HO := Hid.mk' hok
      clear hok hB
      go_enter Try.func187, Try.ntmps187
      go_wp2_with fail
      go_ret
      have e2 := HO.out
      rw [cutRest, cutOut, e2]
      exact ⟨_, _, rfl, (H.set 0 (.slice none 0 0)).set 1 (.bool true), Rd.nil, Rd.nil⟩
theorem cut_nil (w : World) (n : Int) : Calls Try.prog 187 #[.pointer none, .int .i64 n] w fun e w' => e = .returned (.slice none 0 0) ∧ w = w' := by
  go_enter Try.func187, Try.ntmps187
  go_wp2_with fail
  go_ret
  exact ⟨rfl, rfl⟩
theorem valB_snoc (l : List UInt8) (c : UInt8) : valB (l ++ [c]) = valB l * 256 + c.toNat := by simp [valB]
theorem valB_succ (l : List UInt8) (j : Nat) (h : j < l.length) : valB (l.take (j + 1)) = valB (l.take j) * 256 + l[j].toNat := by
  rw [List.take_succ_eq_append_getElem h, valB_snoc]
theorem valB_foldl_lt : ∀ (l : List UInt8) (a : Nat), l.foldl (fun a c => a * 256 + c.toNat) a < (a + 1) * 256 ^ l.length
  | [], a => by simp
  | c :: l, a => by
    have := valB_foldl_lt l (a * 256 + c.toNat)
    have hc := c.toNat_lt
    refine Nat.lt_of_lt_of_le this ?_
    rw [List.length_cons, Nat.pow_succ, Nat.mul_comm (256 ^ l.length) 256, ← Nat.mul_assoc]
    exact Nat.mul_le_mul_right _ (by omega)
theorem valB_lt (l : List UInt8) : valB l < 256 ^ l.length := by have := valB_foldl_lt l 0; simpa [valB] using this
theorem rnum_spec {w : World} {R : Snap} {L : Asrt} {p : Nat} {v : Value} {rest : List UInt8} {bad : Bool} {k : Int} (H : Holds w R (star (blk p #[v, .bool bad] 211) L)) (hr : RdB R.cell? v rest) :
    Calls Try.prog 127 #[.pointer (some ⟨p, 0, none⟩), .int .i64 k] w fun e w' => ∃ v', e = .returned (.int .i64 (valB (cutOut rest bad (wid k)))) ∧ Holds w' R (star (blk p #[v', .bool (!cutOk rest bad (wid k))] 211) L) ∧ RdB R.cell? v' (cutRest rest bad (wid k)) := by
  go_enter Try.func127, Try.ntmps127
  go_wp2_with fail
  refine (width_spec _ _).mono ?_
  rintro e w1 ⟨rfl, rfl⟩
  go_wp2_with fail
  refine (cut_spec H hr).mono ?_
  rintro e w1 ⟨out, v', rfl, H1, h1, h2⟩
  rw [Int.toNat_natCast] at H1 h1 h2
  obtain ⟨l, hl⟩ : ∃ l, l = cutOut rest bad (wid k) := ⟨_, rfl⟩
  rw [← hl] at h2
  have HL := Hid.mk' hl
  have hl4 : l.length ≤ 4 := by
    have := wid_bd k
    rw [hl, cutOut]; split <;> simp; omega
  clear hl
  obtain ⟨ao, co, rfl⟩ := h2.form
  go_wp2_with fail
  go_loop [6, 16] (fun n i => ∃ j : Nat, i = .int .i64 j ∧ j ≤ l.length ∧ n = .int .i64 (valB (l.take j))) (fun _ i => l.length - (intOf i).toNat)
  case atStart => exact ⟨0, rfl, Nat.zero_le _, rfl⟩
  case round =>
    obtain ⟨j, rfl, hj, rfl⟩ := hrel
    by_cases hlt : j < l.length
    · obtain ⟨bo, oo, rfl, hc⟩ := RdB.open (h2.world H1) (by omega)
      have cj := hc j hlt
      have hval := valB_succ l j hlt
      generalize l[j] = x at cj hval
      have hx := u8_lt x
      have hv := valB_lt (l.take j)
      have hv3 : valB (l.take j) < 16777216 := by
        have h3 : (l.take j).length ≤ 3 := by simp; omega
        exact Nat.lt_of_lt_of_le hv (Nat.pow_le_pow_right (n := 256) (by decide) h3)
      generalize valB (l.take j) = y at *
      have HV := Hid.mk' hval
      clear hval hc hv
      go_wp2_with fail
      go_round
      case rel =>
        refine ⟨j + 1, by go_num, hlt, ?_⟩
        rw [HV.out, bits_join .i64 40 (by decide) (fun n h0 h1 => IntWalk.i64_in n (by omega)) 8 _ _ (by omega) (by omega) (by omega) (by omega) (by omega) (by omega)]
        norm_cast
      case measure => simp [intOf]; omega
    · go_wp2_with fail
      go_ret
      rw [List.take_of_length_le (by omega), HL.out]
      first | exact ⟨_, rfl, H1, h1⟩ | exact ⟨rfl, _, H1, h1⟩
theorem rnum_nil (w : World) (k : Int) : Calls Try.prog 127 #[.pointer none, .int .i64 k] w fun e w' => e = .returned (.int .i64 0) ∧ w = w' := by
  go_enter Try.func127, Try.ntmps127
  go_wp2_with fail
  refine (width_spec _ _).mono ?_
  rintro e w1 ⟨rfl, rfl⟩
  go_wp2_with fail
  refine (cut_nil _ _).mono ?_
  rintro e w1 ⟨rfl, rfl⟩
  go_wp2_with fail
  go_loop [6, 16] (fun n i => n = .int .i64 0 ∧ i = .int .i64 0) (fun _ i => 0)
  case atStart => exact ⟨rfl, rfl⟩
  case round =>
    obtain ⟨rfl, rfl⟩ := hrel
    go_wp2_with fail
    go_ret
    exact ⟨rfl, rfl⟩
theorem rraw_spec {w : World} {R : Snap} {L : Asrt} {p : Nat} {v : Value} {rest : List UInt8} {bad : Bool} {n : Int} (H : Holds w R (star (blk p #[v, .bool bad] 211) L)) (hr : RdB R.cell? v rest) (hl : rest.length ≤ 1000000) :
    Calls Try.prog 188 #[.pointer (some ⟨p, 0, none⟩), .int .i64 n] w fun e w' => ∃ out v', e = .returned out ∧ Holds w' R (star (rowB out (cutOut rest bad n.toNat)) (star (blk p #[v', .bool (!cutOk rest bad n.toNat)] 211) L)) ∧ RdB R.cell? v' (cutRest rest bad n.toNat) := by
  have hl2 : (cutOut rest bad n.toNat).length ≤ 1000000 := by rw [cutOut]; split <;> simp; omega
  go_enter Try.func188, Try.ntmps188
  go_wp2_with (with_reducible refine stop_append ?_)
  refine (cut_spec (freshB H).swap hr).mono ?_
  rintro e w1 ⟨out, v', rfl, H1, h1, h2⟩
  go_wp2_with (with_reducible refine stop_append ?_)
  refine Hold.go (wpList_appendB rfl _ _ rfl rfl rfl H1.swap (h2.world H1) (by simp only [List.length_nil]; omega) ?_)
  intro v2 w2 H2
  go_wp2_with fail
  go_ret
  exact ⟨_, _, rfl, H2, h1⟩
theorem rraw_nil {w : World} {R : Snap} {L : Asrt} (H : Holds w R L) (n : Int) : Calls Try.prog 188 #[.pointer none, .int .i64 n] w fun e w' => ∃ out, e = .returned out ∧ Holds w' R (star (rowB out []) L) := by
  go_enter Try.func188, Try.ntmps188
  go_wp2_with (with_reducible refine stop_append ?_)
  refine (cut_nil _ _).mono ?_
  rintro e w1 ⟨rfl, rfl⟩
  go_wp2_with (with_reducible refine stop_append ?_)
  refine Hold.go (wpList_appendB rfl _ _ rfl rfl rfl (freshB H) RdB.nil (by simp) ?_)
  intro v2 w2 H2
  go_wp2_with fail
  go_ret
  exact ⟨_, rfl, H2⟩
theorem rtext_spec {w : World} {R : Snap} {L : Asrt} {p : Nat} {v : Value} {rest : List UInt8} {bad : Bool} (H : Holds w R (star (blk p #[v, .bool bad] 211) L)) (hr : RdB R.cell? v rest) (hl : rest.length ≤ 1000000) :
    Calls Try.prog 129 #[.pointer (some ⟨p, 0, none⟩)] w fun e w' => ∃ out v', e = .returned out ∧ Holds w' R (star (rowB out (cutOut (cutRest rest bad 1) (!cutOk rest bad 1) (valB (cutOut rest bad 1)))) (star (blk p #[v', .bool (!cutOk (cutRest rest bad 1) (!cutOk rest bad 1) (valB (cutOut rest bad 1)))] 211) L)) ∧ RdB R.cell? v' (cutRest (cutRest rest bad 1) (!cutOk rest bad 1) (valB (cutOut rest bad 1))) := by
  go_enter Try.func129, Try.ntmps129
  go_wp2_with fail
  refine (rnum_spec H hr).mono ?_
  rintro e w1 ⟨v1, rfl, H1, h1⟩
  go_wp2_with fail
  refine (rraw_spec H1 h1 (by rw [cutRest]; split <;> simp; omega)).mono ?_
  rintro e w2 ⟨out, v2, rfl, H2, h2⟩
  go_wp2_with fail
  go_ret
  rw [Int.toNat_natCast] at H2 h2
  exact ⟨_, _, rfl, H2, h2⟩
theorem rleft_spec {w : World} {R : Snap} {L : Asrt} {p : Nat} {v : Value} {rest : List UInt8} {bad : Bool} (H : Holds w R (star (blk p #[v, .bool bad] 211) L)) (hr : RdB R.cell? v rest) :
    Calls Try.prog 197 #[.pointer (some ⟨p, 0, none⟩)] w fun e w' => e = .returned (.int .i64 rest.length) ∧ w = w' := by
  obtain ⟨a, c, rfl⟩ := hr.form
  have fp := H.facts
  go_enter Try.func197, Try.ntmps197
  go_wp2_with fail
  go_ret
  exact ⟨rfl, rfl⟩
theorem rleft_nil (w : World) : Calls Try.prog 197 #[.pointer none] w fun e w' => e = .returned (.int .i64 0) ∧ w = w' := by
  go_enter Try.func197, Try.ntmps197
  go_wp2_with fail
  go_ret
  exact ⟨rfl, rfl⟩
theorem rgood_spec {w : World} {R : Snap} {L : Asrt} {p : Nat} {v : Value} {bad : Bool} (H : Holds w R (star (blk p #[v, .bool bad] 211) L)) :
    Calls Try.prog 189 #[.pointer (some ⟨p, 0, none⟩)] w fun e w' => e = .returned (.bool (!bad)) ∧ w = w' := by
  have fp := H.facts
  go_enter Try.func189, Try.ntmps189
  go_wp2_with fail
  go_ret
  exact ⟨rfl, rfl⟩
theorem rgood_nil (w : World) : Calls Try.prog 189 #[.pointer none] w fun e w' => e = .returned (.bool false) ∧ w = w' := by
  go_enter Try.func189, Try.ntmps189
  go_wp2_with fail
  go_ret
  exact ⟨rfl, rfl⟩
theorem rdone_spec {w : World} {R : Snap} {L : Asrt} {p : Nat} {v : Value} {rest : List UInt8} {bad : Bool} (H : Holds w R (star (blk p #[v, .bool bad] 211) L)) (hr : RdB R.cell? v rest) :
    Calls Try.prog 192 #[.pointer (some ⟨p, 0, none⟩)] w fun e w' => e = .returned (.bool (!bad && decide (rest.length = 0))) ∧ w = w' := by
  cases bad with
  | true =>
    go_enter Try.func192, Try.ntmps192
    go_wp2_with fail
    refine (rgood_spec H).mono ?_
    rintro e w1 ⟨rfl, rfl⟩
    go_wp2_with fail
    go_ret
    exact ⟨rfl, rfl⟩
  | false =>
    go_enter Try.func192, Try.ntmps192
    go_wp2_with fail
    refine (rgood_spec H).mono ?_
    rintro e w1 ⟨rfl, rfl⟩
    go_wp2_with fail
    refine (rleft_spec H hr).mono ?_
    rintro e w1 ⟨rfl, rfl⟩
    go_wp2_with fail
    go_ret
    exact ⟨ret_bool (by rw [Bool.eq_iff_iff]; simp), rfl⟩
theorem rdone_nil (w : World) : Calls Try.prog 192 #[.pointer none] w fun e w' => e = .returned (.bool false) ∧ w = w' := by
  go_enter Try.func192, Try.ntmps192
  go_wp2_with fail
  refine (rgood_nil _).mono ?_
  rintro e w1 ⟨rfl, rfl⟩
  go_wp2_with fail
  go_ret
  exact ⟨rfl, rfl⟩
theorem read_spec {w : World} {R : Snap} {L : Asrt} {v : Value} {b : List UInt8} (H : Holds w R L) (hr : RdB R.cell? v b) :
    Calls Try.prog 126 #[v] w fun e w' => ∃ p, e = .returned (.pointer (some ⟨p, 0, none⟩)) ∧ Holds w' R (star (blk p #[v, .bool false] 211) L) := by
  obtain ⟨a, c, rfl⟩ := hr.form
  go_enter Try.func126, Try.ntmps126
  go_wp2_with fail
  go_ret
  exact ⟨_, rfl, H.alloc _ _⟩
end Sh
