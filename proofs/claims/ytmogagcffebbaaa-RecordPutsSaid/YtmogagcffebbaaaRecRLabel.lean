/- The reference's names: sherdref07.Put, Get. -/
import Derived.Test.YtmogagcffebbaaaLabelPut
import Derived.Test.YtmogagcffebbaaaMsgMath
import Derived.Test.YtmogagcffebbaaaMsgRPut
import Derived.BigQuiet
set_option linter.unusedVariables false
set_option linter.unusedSimpArgs false
namespace Sh
open Go Go.RowKit Go.Proofs
attribute [local go_sem ↓] Go.wp_at_zero Go.wp_at_succ
set_option maxHeartbeats 1000000
set_option maxRecDepth 100000

def nameS (s : ByteArray) (j : Nat) : List UInt8 := nb 1 (s.size : Int) ++ ((strB s).take j ++ List.replicate (16 - j) 0)
theorem nameS_end (s : ByteArray) : nameS s s.size = nameB s := by
  rw [nameS, nameB, List.take_of_length_le (by rw [strB_sz]; omega)]; rfl
theorem nameS_start (s : ByteArray) : nameS s 0 = nb 1 (s.size : Int) ++ List.replicate 16 0 := by simp [nameS]
theorem nameS_next (s : ByteArray) (j : Nat) (h : j < s.size) (h16 : s.size ≤ 16) : (nameS s j).set (1 + j) s[j] = nameS s (j + 1) := by
  have hl : (nb 1 (s.size : Int)).length = 1 := by rw [nb_length, wid_1]
  have hj : j < (strB s).length := by rw [strB_sz]; exact h
  have ht : ((strB s).take j).length = j := by rw [List.length_take]; omega
  rw [nameS, nameS, List.set_append_right _ _ (by omega), hl, List.set_append_right _ _ (by rw [ht]; omega), ht]
  have e1 : 1 + j - 1 - j = 0 := by omega
  have e2 : 16 - j = (16 - (j + 1)) + 1 := by omega
  rw [e1, e2, List.replicate_succ, List.set_cons_zero, List.take_succ_eq_append_getElem hj, List.append_assoc]
  have e3 : (strB s)[j] = s[j] := by simp only [strB]; rfl
  rw [e3]; rfl
theorem lrput_spec {w : World} {R : Snap} {L : Asrt} {s : ByteArray} (H : Holds w R L) (hok : nameOk s = true) :
    Calls Try.prog 160 #[.string s] w fun e w' => ∃ o, e = .returned o ∧ Holds w' R (star (rowB o (nameB s)) L) := by
  have hs := nameOk_le hok
  have hmx : s.size ≤ maxLen := by simp only [maxLen]; omega
  have hR := rright_spec hmx
  have HOK := Hid.mk' hok
  have HS := Hid.mk' hs
  clear hok
  go_enter Try.func160, Try.ntmps160
  go_wp2_with (with_reducible refine stop_make ?_)
  refine Hold.go (wpList_makeB (n := 17) rfl _ _ rfl rfl rfl H (by decide) ?_)
  intro v1 w1 H1
  obtain ⟨g, cap, rfl, hcap, hg, _, hf⟩ := H1.rowAt (by decide)
  clear hf hg
  replace H1 : Holds w1 R (star (row tU8 1 (.slice (some ⟨g, 0, none⟩) 17 cap) 17 (u8s (List.replicate 17 0))) L) := H1
  go_wp2_with fail
  refine (hR _).mono ?_
  rintro e w2 ⟨rfl, rfl⟩
  rw [HOK.out]
  obtain ⟨_, _, e0, _, g0, h0, f0⟩ := Holds.rowAt (n := 17) H1 (by decide)
  simp only [Value.slice.injEq, Option.some.injEq, Addr.mk.injEq, and_true, true_and] at e0
  obtain ⟨rfl, rfl⟩ := e0
  have c0 := h0 0 _ rfl
  clear h0
  go_upto_region 4 with fail
  have H2 := row_write H1 0 (s.size : Int) (by decide) (by omega)
  generalize (World.setCell ..) = w3 at H2 ⊢
  have e : (List.replicate 17 (0 : UInt8)).set 0 (UInt8.ofNat (s.size : Int).toNat) = nameS s 0 := by
    rw [nameS_start, nb_byte (by omega)]; rfl
  rw [e] at H2
  clear e H1 g0 c0 f0
  go_wp2_with fail
  go_loopw [4] (fun i wx => ∃ j : Nat, i = .int .i64 j ∧ j ≤ s.size ∧ Holds wx R (star (row tU8 1 (.slice (some ⟨g, 0, none⟩) 17 cap) 17 (u8s (nameS s j))) L)) (fun i _ => s.size - (intOf i).toNat)
  case atStart => exact ⟨0, rfl, Nat.zero_le _, H2⟩
  case round =>
    clear H2
    obtain ⟨j, rfl, hj, H3⟩ := hrel
    have HX := Hid.mk' (nameS_next s j)
    by_cases hlt : j < s.size
    · have d1 : decide ((j : Int) < (s.size : Int)) = true := by simp; omega
      have hx := u8_lt s[j]
      obtain ⟨_, _, e0, _, g0, h0, f0⟩ := Holds.rowAt (n := 17) H3 (by decide)
      simp only [Value.slice.injEq, Option.some.injEq, Addr.mk.injEq, and_true, true_and] at e0
      obtain ⟨rfl, rfl⟩ := e0
      have hln : (nameS s j).length = 17 := by
        rw [nameS, List.length_append, List.length_append, nb_length, wid_1, List.length_take, List.length_replicate, strB_sz]; omega
      obtain ⟨u0, c0⟩ : ∃ u, wr.cell? ⟨g, 1 + j, none⟩ = some u := ⟨_, h0 (1 + j) _ (u8s_get _ _ (by rw [hln]; omega))⟩
      clear h0 hln
      have i1 : (0 : Int) ≤ 1 + (j : Int) := by omega
      have i2 : 1 + (j : Int) < 17 := by omega
      have i3 : (1 + (j : Int)).toNat = 1 + j := by omega
      go_upto_region 6 with fail
      have H4 := row_write H3 (1 + j) (s[j].toNat : Int) (by omega) (by omega)
      have e : (nameS s j).set (1 + j) (UInt8.ofNat ((s[j].toNat : Nat) : Int).toNat) = nameS s (j + 1) := by
        rw [← HX.out hlt HS.out]; congr 1; simp
      rw [e] at H4
      clear H3 g0 c0 f0 e
      go_wp2_with fail
      go_roundw
      case rel => exact ⟨j + 1, by go_num, hlt, H4⟩
      case measure => simp [intOf]; omega
    · have d1 : decide ((j : Int) < (s.size : Int)) = false := by simp; omega
      obtain rfl : j = s.size := by omega
      go_wp2_with fail
      go_ret
      rw [nameS_end] at H3
      refine ⟨_, rfl, ?_⟩
      have hl : (nameB s).length = 17 := by rw [← nameS_end, nameS, List.length_append, List.length_append, nb_length, wid_1, List.length_take, List.length_replicate, strB_sz]; omega
      show Holds wr R (star (row tU8 1 (.slice (some ⟨g, 0, none⟩) 17 cap) (nameB s).length (u8s (nameB s))) L)
      rw [hl]; exact H3
end Sh
