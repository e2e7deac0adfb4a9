/- label.Right and sherdref07.Right. -/
import Derived.Test.YtmogagcffebbaaaTab
import Derived.WalkSpells
set_option linter.unusedVariables false
set_option linter.unusedSimpArgs false
namespace Sh
open Go Go.RowKit Go.Proofs
attribute [local go_sem ↓] Go.wp_at_zero Go.wp_at_succ
set_option maxHeartbeats 1000000
set_option maxRecDepth 100000

def signI (c : Int) : Bool := decide ((97 ≤ c ∧ c ≤ 122) ∨ (48 ≤ c ∧ c ≤ 57) ∨ c = 45)
def nameL (l : List UInt8) : Bool := decide (1 ≤ l.length ∧ l.length ≤ 16 ∧ l.getD 0 0 ≠ 45 ∧ ∀ c ∈ l, signI c.toNat = true)
abbrev nameOk (s : ByteArray) : Bool := nameL s.data.toList
theorem sign_spec (c : Int) (h0 : 0 ≤ c) (h : c ≤ 255) (w : World) : Calls Try.prog 178 #[.int .u8 c] w fun e w' => e = .returned (.bool (signI c)) ∧ w = w' := by
  by_cases h1 : 97 ≤ c
  · by_cases h2 : c ≤ 122
    · rw [show signI c = true from by simp [signI]; omega]
      go_enter Try.func178, Try.ntmps178
      go_wp2_with fail
      go_ret
      exact ⟨rfl, rfl⟩
    · have t2 : decide (c ≤ 122) = false := by simpa using h2
      have t5 : (c == 45) = false := by simp; omega
      have t6 : decide (c ≤ 57) = false := by simp; omega
      rw [show signI c = false from by rw [Bool.eq_false_iff]; simp [signI]; omega]
      go_enter Try.func178, Try.ntmps178
      go_wp2_with fail
      go_ret
      exact ⟨rfl, rfl⟩
  · have t1 : decide (97 ≤ c) = false := by simpa using h1
    by_cases h3 : 48 ≤ c
    · by_cases h4 : c ≤ 57
      · rw [show signI c = true from by simp [signI]; omega]
        go_enter Try.func178, Try.ntmps178
        go_wp2_with fail
        go_ret
        exact ⟨rfl, rfl⟩
      · have t4 : decide (c ≤ 57) = false := by simpa using h4
        rw [show signI c = (c == 45) from by rw [Bool.eq_iff_iff]; simp [signI]; omega]
        go_enter Try.func178, Try.ntmps178
        go_wp2_with fail
        go_ret
        exact ⟨rfl, rfl⟩
    · have t3 : decide (48 ≤ c) = false := by simpa using h3
      rw [show signI c = (c == 45) from by rw [Bool.eq_iff_iff]; simp [signI]; omega]
      go_enter Try.func178, Try.ntmps178
      go_wp2_with fail
      go_ret
      exact ⟨rfl, rfl⟩
theorem nameL_no {l : List UInt8} {j : Nat} (h : j < l.length) (hs : signI (l[j].toNat : Int) = false) : nameL l = false := by
  rw [nameL, decide_eq_false_iff_not]
  intro h2
  have := h2.2.2.2 _ (List.getElem_mem h)
  rw [hs] at this; cases this
theorem nameL_all {l : List UInt8} (h1 : 1 ≤ l.length) (h2 : l.length ≤ 16) (h3 : l.getD 0 0 ≠ 45) (h : ∀ j (h : j < l.length), signI (l[j].toNat : Int) = true) : nameL l = true := by
  rw [nameL, decide_eq_true_eq]
  refine ⟨h1, h2, h3, fun c hc => ?_⟩
  obtain ⟨j, hj, rfl⟩ := List.getElem_of_mem hc
  exact h j hj
theorem right_spec {s : ByteArray} (hs : s.size ≤ maxLen) (w : World) : Calls Try.prog 105 #[.string s] w fun e w' => e = .returned (.bool (nameOk s)) ∧ w = w' := by
  unfold maxLen at hs
  obtain ⟨l, hl⟩ : ∃ l, l = s.data.toList := ⟨_, rfl⟩
  have hls : l.length = s.size := by rw [hl]; simp
  unfold nameOk
  rw [← hl]
  by_cases h0 : s.size = 0
  · have t0 : s.toList = [] := by
      rw [ByteArray.toList_eq]; exact List.eq_nil_of_length_eq_zero (by simpa using h0)
    have t1 : (!s.toList.isEmpty) = false := by rw [t0]; rfl
    have e1 : nameL l = false := by rw [nameL, decide_eq_false_iff_not]; omega
    rw [e1]
    clear e1 hls hl
    go_enter Try.func105, Try.ntmps105
    go_wp2_with fail
    go_ret
    exact ⟨rfl, rfl⟩
  · have t1 : s.toList.isEmpty = false := by
      rw [ByteArray.toList_eq]
      cases h : s.data.toList with
      | nil => rw [hl, h] at hls; simp at hls; omega
      | cons a t => rfl
    by_cases h16 : s.size ≤ 16
    · have t2 : decide ((16 : Int) < s.size) = false := by simp; omega
      have hs1 : 1 ≤ s.size := by omega
      have hget : ∀ j (h : j < s.size) (h' : j < l.length), l[j] = s[j] := fun j h h' => by simp only [hl]; rfl
      have HG := Hid.mk' hget
      have HLS := Hid.mk' hls
      have hd0 : l.getD 0 0 = s[0] := by rw [← hget 0 (by omega) (by omega), List.getD, List.getElem?_eq_getElem (by omega)]; rfl
      have HD0 := Hid.mk' hd0
      clear hget hls hl hd0
      by_cases hd : s[0] = 45
      · have t3 : ((s[0].toNat : Int) == 45) = true := by rw [hd]; rfl
        have e1 : nameL l = false := by rw [nameL, decide_eq_false_iff_not]; intro h; exact h.2.2.1 (HD0.out.trans hd)
        rw [e1]
        clear e1 hd
        go_enter Try.func105, Try.ntmps105
        go_wp2_with fail
        go_ret
        exact ⟨rfl, rfl⟩
      · have t3 : ((s[0].toNat : Int) == 45) = false := by
          rw [Bool.eq_false_iff]; intro h; apply hd; apply UInt8.toNat_inj.1
          have := beq_iff_eq.1 h; rw [show (45 : UInt8).toNat = 45 from rfl]; omega
        have HD := Hid.mk' hd
        clear hd
        go_enter Try.func105, Try.ntmps105
        go_wp2_with fail
        go_loop [18] (fun i => ∃ j : Nat, i = .int .i64 j ∧ j ≤ s.size ∧ Hid (∀ k (h : k < l.length), k < j → signI (l[k].toNat : Int) = true)) (fun i => s.size - (intOf i).toNat)
        case atStart => exact ⟨0, rfl, Nat.zero_le _, Hid.mk' fun k _ h => by omega⟩
        case round =>
          obtain ⟨j, rfl, hj, hall⟩ := hrel
          by_cases hlt : j < s.size
          · have hjl : j < l.length := by rw [HLS.out]; exact hlt
            have hx := u8_lt s[j]
            have hsg := sign_spec (s[j].toNat : Int) (by omega) (by omega) w
            have hno : Hid (signI (s[j].toNat : Int) = false → nameL l = false) := Hid.mk' fun h => nameL_no hjl (by rw [HG.out j hlt hjl]; exact h)
            have hyes : Hid (signI (s[j].toNat : Int) = true → ∀ k (h : k < l.length), k < j + 1 → signI (l[k].toNat : Int) = true) := Hid.mk' fun h k hk hkj => by
              rcases Nat.lt_or_ge k j with h2 | h2
              · exact hall.out k hk h2
              · obtain rfl : k = j := by omega
                rw [HG.out k hlt hk]; exact h
            cases hc : signI (s[j].toNat : Int) with
            | true =>
              rw [hc] at hsg
              have hy2 := Hid.mk' (hyes.out hc)
              clear hc hno hyes
              go_wp2_with fail
              refine hsg.mono ?_
              rintro e w1 ⟨rfl, rfl⟩
              go_wp2_with fail
              go_round
              case rel => exact ⟨j + 1, by go_num, hlt, hy2⟩
              case measure => simp [intOf]; omega
            | false =>
              rw [hc] at hsg
              have hn2 := Hid.mk' (hno.out hc)
              clear hc hno hyes
              go_wp2_with fail
              refine hsg.mono ?_
              rintro e w1 ⟨rfl, rfl⟩
              go_wp2_with fail
              go_ret
              exact ⟨ret_bool hn2.out.symm, rfl⟩
          · go_wp2_with fail
            go_ret
            refine ⟨ret_bool (nameL_all (by rw [HLS.out]; exact hs1) (by rw [HLS.out]; exact h16) (by rw [HD0.out]; exact HD.out) fun k hk => ?_).symm, rfl⟩
            exact hall.out k hk (by have := HLS.out; omega)
    · have t2 : decide ((16 : Int) < s.size) = true := by simp; omega
      have e1 : nameL l = false := by rw [nameL, decide_eq_false_iff_not]; omega
      rw [e1]
      clear e1 hls hl
      go_enter Try.func105, Try.ntmps105
      go_wp2_with fail
      go_ret
      exact ⟨rfl, rfl⟩
theorem rright_spec {s : ByteArray} (hs : s.size ≤ maxLen) (w : World) : Calls Try.prog 106 #[.string s] w fun e w' => e = .returned (.bool (nameOk s)) ∧ w = w' := by
  unfold maxLen at hs
  obtain ⟨l, hl⟩ : ∃ l, l = s.data.toList := ⟨_, rfl⟩
  have hls : l.length = s.size := by rw [hl]; simp
  unfold nameOk
  rw [← hl]
  by_cases h0 : s.size < 1
  · have e1 : nameL l = false := by rw [nameL, decide_eq_false_iff_not]; omega
    rw [e1]
    clear e1 hls hl
    go_enter Try.func106, Try.ntmps106
    go_wp2_with fail
    go_ret
    exact ⟨rfl, rfl⟩
  · have t1 : decide ((s.size : Int) < 1) = false := by simp; omega
    by_cases h16 : s.size ≤ 16
    · have t2 : decide ((16 : Int) < s.size) = false := by simp; omega
      have hs1 : 1 ≤ s.size := by omega
      have hget : ∀ j (h : j < s.size) (h' : j < l.length), l[j] = s[j] := fun j h h' => by simp only [hl]; rfl
      have HG := Hid.mk' hget
      have HLS := Hid.mk' hls
      clear hget hls hl
      go_enter Try.func106, Try.ntmps106
      go_wp2_with fail
      go_loop [3] (fun i => ∃ j : Nat, i = .int .i64 j ∧ j ≤ s.size ∧ Hid ((0 < j → l.getD 0 0 ≠ 45) ∧ ∀ k (h : k < l.length), k < j → signI (l[k].toNat : Int) = true)) (fun i => s.size - (intOf i).toNat)
      case atStart => exact ⟨0, rfl, Nat.zero_le _, Hid.mk' ⟨fun h => by omega, fun k _ h => by omega⟩⟩
      case round =>
        obtain ⟨j, rfl, hj, hall⟩ := hrel
        by_cases hlt : j < s.size
        · have hjl : j < l.length := by rw [HLS.out]; exact hlt
          have hx := u8_lt s[j]
          have hno : Hid (signI (s[j].toNat : Int) = false → nameL l = false) := Hid.mk' fun h => nameL_no hjl (by rw [HG.out j hlt hjl]; exact h)
          have hyes : Hid (signI (s[j].toNat : Int) = true → (j = 0 → (s[j].toNat : Int) ≠ 45) → (0 < j + 1 → l.getD 0 0 ≠ 45) ∧ ∀ k (h : k < l.length), k < j + 1 → signI (l[k].toNat : Int) = true) := Hid.mk' fun h h4 => ⟨fun _ => by
            rcases Nat.eq_zero_or_pos j with h5 | h5
            · subst h5
              rw [List.getD, List.getElem?_eq_getElem hjl, Option.getD_some, HG.out 0 hlt hjl]
              intro h6; exact h4 rfl (by rw [h6]; rfl)
            · exact hall.out.1 h5, fun k hk hkj => by
            rcases Nat.lt_or_ge k j with h2 | h2
            · exact hall.out.2 k hk h2
            · obtain rfl : k = j := by omega
              rw [HG.out k hlt hk]; exact h⟩
          have hbad0 : Hid (j = 0 → (s[j].toNat : Int) = 45 → nameL l = false) := Hid.mk' fun h1 h2 => by
            subst h1
            rw [nameL, decide_eq_false_iff_not]
            intro h
            apply h.2.2.1
            rw [List.getD, List.getElem?_eq_getElem hjl, Option.getD_some, HG.out 0 hlt hjl]
            apply UInt8.toNat_inj.1; rw [show (45 : UInt8).toNat = 45 from rfl]; omega
          have hc0 : (0 : Int) ≤ (s[j].toNat : Int) := by omega
          by_cases ha : 97 ≤ (s[j].toNat : Int) ∧ (s[j].toNat : Int) ≤ 122
          · obtain ⟨ha1, ha2⟩ := ha
            have tb : decide (48 ≤ (s[j].toNat : Int)) = true := by simp; omega
            have tb2 : decide ((s[j].toNat : Int) ≤ 57) = false := by simp; omega
            have hy2 := Hid.mk' (hyes.out (by simp [signI]; omega) (by omega))
            clear hno hyes hbad0
            go_wp2_with fail
            go_round
            case rel => exact ⟨j + 1, by go_num, hlt, hy2⟩
            case measure => simp [intOf]; omega
          · have hnl : decide (97 ≤ (s[j].toNat : Int)) = false ∨ (decide (97 ≤ (s[j].toNat : Int)) = true ∧ decide ((s[j].toNat : Int) ≤ 122) = false) := by simp; omega
            by_cases hb : 48 ≤ (s[j].toNat : Int) ∧ (s[j].toNat : Int) ≤ 57
            · obtain ⟨hb1, hb2⟩ := hb
              have tb : decide (97 ≤ (s[j].toNat : Int)) = false := by simp; omega
              have hy2 := Hid.mk' (hyes.out (by simp [signI]; omega) (by omega))
              clear hno hyes hbad0 ha hnl
              go_wp2_with fail
              go_round
              case rel => exact ⟨j + 1, by go_num, hlt, hy2⟩
              case measure => simp [intOf]; omega
            · have hnd : decide (48 ≤ (s[j].toNat : Int)) = false ∨ (decide (48 ≤ (s[j].toNat : Int)) = true ∧ decide ((s[j].toNat : Int) ≤ 57) = false) := by simp; omega
              by_cases h45 : (s[j].toNat : Int) = 45
              · have t97 : decide (97 ≤ (s[j].toNat : Int)) = false := by simp; omega
                have t48 : decide (48 ≤ (s[j].toNat : Int)) = false := by simp; omega
                by_cases hj0 : j = 0
                · have hn2 := Hid.mk' (hbad0.out hj0 h45)
                  have t45 : ((s[j].toNat : Int) != 45) = false := by rw [h45]; rfl
                  have tj : (((j : Nat) : Int) == 0) = true := by simp [hj0]
                  clear h45 hj0
                  clear hno hyes hbad0 ha hb hnl hnd
                  go_wp2_with fail
                  go_ret
                  exact ⟨ret_bool hn2.out.symm, rfl⟩
                · have hy2 := Hid.mk' (hyes.out (by simp [signI]; omega) (by omega))
                  have tj : (((j : Nat) : Int) == 0) = false := by simp; omega
                  clear hj0
                  have t45 : ((s[j].toNat : Int) != 45) = false := by rw [h45]; rfl
                  clear h45
                  clear hno hyes hbad0 ha hb hnl hnd
                  go_wp2_with fail
                  go_round
                  case rel => exact ⟨j + 1, by go_num, hlt, hy2⟩
                  case measure => simp [intOf]; omega
              · have t45 : ((s[j].toNat : Int) != 45) = true := by rw [bne_iff_ne]; exact h45
                have hn2 := Hid.mk' (hno.out (by rw [Bool.eq_false_iff]; simp [signI]; omega))
                clear hno hyes hbad0 ha hb
                rcases hnl with hnl | ⟨hnl, hnl2⟩ <;> rcases hnd with hnd | ⟨hnd, hnd2⟩
                all_goals
                  go_wp2_with fail
                  go_ret
                  exact ⟨ret_bool hn2.out.symm, rfl⟩
        · go_wp2_with fail
          go_ret
          refine ⟨ret_bool (nameL_all (by rw [HLS.out]; exact hs1) (by rw [HLS.out]; exact h16) (hall.out.1 (by omega)) fun k hk => ?_).symm, rfl⟩
          exact hall.out.2 k hk (by have := HLS.out; omega)
    · have t2 : decide ((16 : Int) < s.size) = true := by simp; omega
      have e1 : nameL l = false := by rw [nameL, decide_eq_false_iff_not]; omega
      rw [e1]
      clear e1 hls hl
      go_enter Try.func106, Try.ntmps106
      go_wp2_with fail
      go_ret
      exact ⟨rfl, rfl⟩
end Sh
