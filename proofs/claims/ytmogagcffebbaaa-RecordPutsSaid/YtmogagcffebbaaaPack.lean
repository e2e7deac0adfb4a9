/- The packer (layer 6): contracts of the writer and the reader, and of the reference. -/
import Derived.Test.YtmogagcffebbaaaTab
set_option linter.unusedVariables false
set_option linter.unusedSimpArgs false
namespace Sh
open Go Go.RowKit Go.Proofs
attribute [local go_sem ↓] Go.wp_at_zero Go.wp_at_succ
set_option maxHeartbeats 1000000
set_option maxRecDepth 100000

/-- The width of a number. -/
def wid (k : Int) : Nat := (min (max k 1) 4).toNat
/-- A number's bytes, the greatest first. -/
def be (k n : Nat) : List UInt8 := (List.range k).map fun i => UInt8.ofNat (n / 256 ^ (k - 1 - i))
def nb (k n : Int) : List UInt8 := be (wid k) (max n 0).toNat
theorem wid_bd (k : Int) : 1 ≤ wid k ∧ wid k ≤ 4 := by unfold wid; omega
theorem be_length (k n : Nat) : (be k n).length = k := by simp [be]
theorem nb_length (k n : Int) : (nb k n).length = wid k := be_length _ _
def wr (p : Nat) (l : List UInt8) : Asrt := ex fun v => star (blk p #[v] 153) (rowB v l)

theorem width_spec (k : Int) (w : World) : Calls Try.prog 181 #[.int .i64 k] w fun e w' => e = .returned (.int .i64 (wid k)) ∧ w = w' := by
  go_enter Try.func181, Try.ntmps181
  go_wp2_with fail
  go_ret
  exact ⟨ret_int (by unfold wid; omega), rfl⟩

theorem wr_open {w : World} {R : Snap} {L : Asrt} {p : Nat} {l : List UInt8} (H : Holds w R (star (wr p l) L)) : ∃ a c, Holds w R (star (blk p #[.slice a l.length c] 153) (star (rowB (.slice a l.length c) l) L)) := by
  obtain ⟨v, H1⟩ := H.unex
  replace H1 := H1.unstar
  obtain ⟨a, c, rfl⟩ := H1.swap.rowRd.form
  exact ⟨a, c, H1⟩
theorem wr_shut {w : World} {R : Snap} {L : Asrt} {p : Nat} {l : List UInt8} {v : Value} (H : Holds w R (star (blk p #[v] 153) (star (rowB v l) L))) : Holds w R (star (wr p l) L) := by
  have H1 := H.tostar
  exact Holds.toex (A := fun v => star (blk p #[v] 153) (rowB v l)) v H1
theorem be_take_succ (k n i : Nat) (h : i < k) : (be k n).take (i + 1) = (be k n).take i ++ [UInt8.ofNat (n / 256 ^ (k - 1 - i))] := by
  rw [List.take_succ_eq_append_getElem (by rw [be_length]; exact h)]
  simp [be]
theorem raw_spec {w : World} {R : Snap} {L : Asrt} {p : Nat} {l b : List UInt8} {v : Value} (H : Holds w R (star (wr p l) L)) (hl : l.length ≤ 1000000) (hb : b.length ≤ 1000000) (hr : RdB w.cell? v b) :
    Calls Try.prog 182 #[.pointer (some ⟨p, 0, none⟩), v] w fun e w' => e = .returned (.tuple #[]) ∧ Holds w' R (star (wr p (l ++ b)) L) := by
  obtain ⟨ab, cb, rfl⟩ := hr.form
  obtain ⟨a, c, H1⟩ := wr_open H
  have cp := H1.blkCell
  go_enter Try.func182, Try.ntmps182
  go_wp2_with (with_reducible refine stop_append ?_)
  refine Hold.go (wpList_appendB rfl _ _ rfl rfl rfl H1.swap hr (by omega) ?_)
  intro v2 w2 H2
  obtain ⟨a2, c2, rfl⟩ := H2.rowRd.form
  have cp := H2.swap.blkCell
  have fp := H2.swap.blkFrozen
  go_wp2_with fail
  go_end0
  have H3 := wr_shut (H2.swap.set 0 (.slice a2 (l ++ b).length c2))
  rw [List.length_append] at H3
  exact ⟨rfl, H3⟩
theorem bytes_spec {w : World} {R : Snap} {L : Asrt} {p : Nat} {l : List UInt8} (H : Holds w R (star (wr p l) L)) (hl : l.length ≤ 1000000) :
    Calls Try.prog 118 #[.pointer (some ⟨p, 0, none⟩)] w fun e w' => ∃ v, e = .returned v ∧ Holds w' R (star (rowB v l) (star (wr p l) L)) := by
  obtain ⟨a, c, H1⟩ := wr_open H
  have fp := H1.facts
  have hr := (H1.garbage (.cells #[] tU8)).swap.rowRd
  go_enter Try.func118, Try.ntmps118
  go_wp2_with (with_reducible refine stop_append ?_)
  refine Hold.go (wpList_appendB rfl _ _ rfl rfl rfl (freshB H) hr (by simp only [List.length_nil]; omega) ?_)
  intro v2 w2 H3
  go_wp2_with fail
  go_ret
  exact ⟨_, rfl, H3⟩
theorem num_spec {w : World} {R : Snap} {L : Asrt} {p : Nat} {l : List UInt8} {k n : Int} (H : Holds w R (star (wr p l) L)) (hl : l.length ≤ 1000000) (hn : n ≤ 9223372036854775807) :
    Calls Try.prog 115 #[.pointer (some ⟨p, 0, none⟩), .int .i64 k, .int .i64 n] w fun e w' => e = .returned (.tuple #[]) ∧ Holds w' R (star (wr p (l ++ nb k n)) L) := by
  go_enter Try.func115, Try.ntmps115
  go_wp2_with fail
  refine (width_spec _ _).mono ?_
  rintro e w1 ⟨rfl, rfl⟩
  obtain ⟨kk, hkk⟩ : ∃ kk, kk = wid k := ⟨_, rfl⟩
  obtain ⟨nn, hnn⟩ : ∃ nn : Nat, (nn : Int) = max n 0 := ⟨(max n 0).toNat, by omega⟩
  have HK := Hid.mk' hkk
  have HNN := Hid.mk' hnn
  have hk1 : 1 ≤ kk ∧ kk ≤ 4 := hkk ▸ wid_bd k
  obtain ⟨hk1, hk4⟩ := hk1
  have hn9 : nn ≤ 9223372036854775807 := by omega
  rw [← hkk]
  rw [← hnn]
  clear hkk hnn
  go_wp2_with fail
  go_loopw [12] (fun i wr' => ∃ j : Nat, i = .int .i64 j ∧ j ≤ kk ∧ Holds wr' R (star (wr p (l ++ (be kk nn).take j)) L)) (fun i _ => kk - (intOf i).toNat)
  case atStart => exact ⟨0, rfl, Nat.zero_le _, by simpa using H⟩
  case round =>
    obtain ⟨j, rfl, hj, H1⟩ := hrel
    by_cases hlt : j < kk
    · go_upto_region 5 with fail
      have hlen : (l ++ (be kk nn).take j).length = l.length + j := by simp [be_length]; omega
      generalize hlj : l ++ (be kk nn).take j = lj at H1 hlen
      have HLJ := Hid.mk' hlj
      obtain ⟨a, c, H2⟩ := wr_open H1
      have fp := H2.facts
      obtain ⟨q, hq⟩ : ∃ q, q = nn / 256 ^ (kk - 1 - j) := ⟨_, rfl⟩
      have HQ := Hid.mk' hq
      have e1 : IntKind.i64.wrap (8 * IntKind.i64.wrap (IntKind.i64.wrap ((kk : Int) - 1) - j)) = ((8 * (kk - 1 - j) : Nat) : Int) := by
        rw [IntWalk.i64_in ((kk : Int) - 1) (by omega), IntWalk.i64_in ((kk : Int) - 1 - j) (by omega), IntWalk.i64_in _ (by omega)]; omega
      have hsh : Op.shift .shr .i64 (nn : Int) .i64 (IntKind.i64.wrap (8 * IntKind.i64.wrap (IntKind.i64.wrap ((kk : Int) - 1) - j))) = pure (.int .i64 (q : Int)) := by
        rw [e1, shift_shr_any _ _ _ _ (by omega), Int.toNat_natCast, Nat.min_eq_left (by simp only [IntKind.bits]; omega), hq]
        rw [show (256 : Nat) = 2 ^ 8 from rfl, ← Nat.pow_mul]
        norm_cast
      obtain ⟨x, hx⟩ : ∃ x, x = UInt8.ofNat q := ⟨_, rfl⟩
      have HX := Hid.mk' hx
      have hw : IntKind.u8.wrap (q : Int) = (x.toNat : Int) := by rw [hx, IntKind.wrap_u8]; simp
      have H3 := (H2.alloc #[.int .u8 (x.toNat : Int)] tU8).drew
      have hl9 : lj.length ≤ 1000004 := by omega
      have HL := Hid.mk' hlen
      clear hlen
      have hr3 := blkRdB (n := 1) H3 [x] (by simp [u8s]) rfl (by simp)
      clear e1 hlj hq hx
      go_region_law ((refine step_appendB rfl _ _ (by rfl) (by rfl) (by rfl) H3.drop.swap hr3 (by simp; omega) ?_; intro v6 w6 H6; obtain ⟨a6, c6, rfl⟩ := H6.rowRd.form; have cp6 := H6.swap.blkCell; have fp6 := H6.swap.blkFrozen))
      all_goals
        go_wp2_with fail
        go_roundw
        case rel =>
          refine ⟨j + 1, by go_num, hlt, ?_⟩
          have H7 := wr_shut (H6.swap.set 0 (.slice a6 (lj ++ [x]).length c6))
          rw [List.length_append, List.length_singleton] at H7
          rw [be_take_succ kk nn j hlt, ← HQ.out, ← List.append_assoc, HLJ.out, ← HX.out]
          exact H7
        case measure => simp [intOf]; omega
    · go_wp2_with fail
      go_end0
      refine ⟨rfl, ?_⟩
      rw [List.take_of_length_le (by rw [be_length]; omega)] at H1
      have e1 := HK.out
      have e2 := HNN.out
      rw [show nb k n = be kk nn by unfold nb; rw [← e1, ← e2, Int.toNat_natCast]]
      exact H1
theorem text_spec {w : World} {R : Snap} {L : Asrt} {p : Nat} {l b : List UInt8} {v : Value} (H : Holds w R (star (wr p l) L)) (hl : l.length ≤ 900000) (hb : b.length ≤ 1000000) (hr : RdB R.cell? v b) :
    Calls Try.prog 116 #[.pointer (some ⟨p, 0, none⟩), v] w fun e w' => e = .returned (.tuple #[]) ∧ Holds w' R (star (wr p (l ++ nb 1 (min b.length 255 : Nat) ++ b.take 255)) L) := by
  obtain ⟨ab, cb, rfl⟩ := hr.form
  have hB := hr.bounds
  have i1 : (b.length : Int) ≤ cb := by omega
  obtain ⟨m, hm⟩ : ∃ m, m = min b.length 255 := ⟨_, rfl⟩
  have e1 : min (b.length : Int) 255 = m := by omega
  have hsub := RdB.pre hr m (by omega)
  rw [show b.take 255 = b.take m by rw [hm]; by_cases h : b.length ≤ 255 <;> simp [List.take_of_length_le, h, Nat.min_def]]
  rw [← hm]
  have hmb : (b.take m).length ≤ 255 := by simp; omega
  clear hm hB
  go_enter Try.func116, Try.ntmps116
  go_wp2_with fail
  refine (num_spec (k := 1) (n := m) H (by omega) (by omega)).mono ?_
  rintro e w1 ⟨rfl, H1⟩
  go_wp2_with fail
  refine (raw_spec H1 (by simp [nb_length]; have := wid_bd 1; omega) (by omega) (hsub.world H1)).mono ?_
  rintro e w2 ⟨rfl, H2⟩
  go_wp2_with fail
  go_end0
  exact ⟨rfl, H2⟩
end Sh
