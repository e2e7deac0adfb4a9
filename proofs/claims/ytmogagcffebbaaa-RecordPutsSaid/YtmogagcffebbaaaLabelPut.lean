/- A name's bytes: label.Put and its reference. -/
import Derived.Test.YtmogagcffebbaaaPackRef
import Derived.Test.YtmogagcffebbaaaConvStr
import Derived.Test.YtmogagcffebbaaaLabel
set_option linter.unusedVariables false
set_option linter.unusedSimpArgs false
namespace Sh
open Go Go.RowKit Go.Proofs
attribute [local go_sem ↓] Go.wp_at_zero Go.wp_at_succ
set_option maxHeartbeats 1000000
set_option maxRecDepth 100000

def nameB (s : ByteArray) : List UInt8 := nb 1 (s.size : Int) ++ (s.data.toList ++ List.replicate (16 - s.size) 0)
theorem nameOk_le {s : ByteArray} (h : nameOk s = true) : s.size ≤ 16 := by
  simp only [nameOk, nameL, decide_eq_true_eq] at h
  have := h.2.1
  simpa using this
theorem strB_sz (s : ByteArray) : (strB s).length = s.size := by simp [strB]
theorem lput_spec {w : World} {R : Snap} {L : Asrt} {p : Nat} {l : List UInt8} {s : ByteArray} (H : Holds w R (star (wr p l) L)) (hl : l.length ≤ 900000) (hok : nameOk s = true) :
    Calls Try.prog 154 #[.pointer (some ⟨p, 0, none⟩), .string s] w fun e w' => e = .returned (.tuple #[]) ∧ Holds w' R (star (wr p (l ++ nameB s)) L) := by
  have hs := nameOk_le hok
  have hmx : s.size ≤ maxLen := by simp only [maxLen]; omega
  have hR := right_spec hmx
  have HM := Hid.mk' hmx
  obtain ⟨n, hn⟩ : ∃ n, n = s.size := ⟨_, rfl⟩
  have HN := Hid.mk' hn
  have hsz : (s.size : Int) = (n : Int) := by omega
  rw [← hn] at hs
  clear hn
  have HOK := Hid.mk' hok
  clear hok hmx
  go_enter Try.func154, Try.ntmps154
  go_wp2_with fail
  refine (hR _).mono ?_
  rintro e w1 ⟨rfl, rfl⟩
  rw [HOK.out]
  go_wp2_with fail
  refine (num_spec H (by omega) (by omega)).mono ?_
  rintro e w2 ⟨rfl, H2⟩
  clear H hR
  obtain ⟨a3, c3, w3, hconv, R3, le3, H3, hr3⟩ := convBytes H2 HM.out
  rw [← HN.out] at hconv hr3
  go_wp2_with fail
  have hl2 : (l ++ nb 1 (n : Int)).length ≤ 900001 := by rw [List.length_append, nb_length]; have := wid_bd 1; have : wid 1 = 1 := rfl; omega
  refine (raw_spec H3 (by omega) (by rw [strB_sz, ← HN.out]; omega) (Rd.world hr3 H3)).mono ?_
  rintro e w4 ⟨rfl, H4⟩
  obtain ⟨k, hk⟩ : ∃ k, k = 16 - n := ⟨_, rfl⟩
  have e1 : (16 : Int) - (n : Int) = (k : Int) := by omega
  have e2 : wrap64 (k : Int) = (k : Int) := IntWalk.wrap64_in _ (by omega)
  have HK := Hid.mk' hk
  have hk9 : k ≤ 16 := by omega
  clear H2 H3 hconv hr3 hk
  go_wp2_with (with_reducible refine stop_make ?_)
  refine Hold.go (wpList_makeB (n := k) rfl _ _ rfl rfl rfl H4 (by omega) ?_)
  intro v5 w5 H5
  go_wp2_with fail
  refine (raw_spec H5.swap (by rw [List.length_append, strB_sz, ← HN.out]; omega) (by rw [List.length_replicate]; omega) H5.rowRd).mono ?_
  rintro e w6 ⟨rfl, H6⟩
  go_wp2_with fail
  go_end0
  refine ⟨rfl, ?_⟩
  have e : l ++ nb 1 (n : Int) ++ strB s ++ List.replicate k 0 = l ++ nameB s := by
    rw [nameB, ← HN.out, HK.out]; simp [strB]
  rw [e] at H6
  exact (H6.swap.drop).weaken le3
end Sh
