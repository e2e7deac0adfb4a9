/- bag.Double, All. -/
import Derived.Test.YtmogagcffebbaaaBagTake
set_option linter.unusedVariables false
set_option linter.unusedSimpArgs false
namespace Sh
open Go Go.RowKit Go.Proofs
attribute [local go_sem ↓] Go.wp_at_zero Go.wp_at_succ
set_option maxHeartbeats 1000000
set_option maxRecDepth 100000

theorem bdouble_none {w : World} {R : Snap} {L : Asrt} {p : Nat} {l : List Ms} {n : Int} (H : Holds w R (star (bagA p l) L)) (h : n < 0 ∨ (l.length : Int) ≤ n) :
    Calls Try.prog 42 #[.pointer (some ⟨p, 0, none⟩), .int .i64 n] w fun e w' => e = .returned (.bool false) ∧ Holds w' R (star (bagA p l) L) := by
  by_cases h0 : n < 0
  · have t0 : decide (n < 0) = true := by simpa using h0
    go_enter Try.func42, Try.ntmps42
    go_wp2_with fail
    go_ret
    exact ⟨rfl, H⟩
  · have t0 : decide (n < 0) = false := by simpa using h0
    have t1 : decide ((l.length : Int) ≤ n) = true := by simp; omega
    go_enter Try.func42, Try.ntmps42
    go_wp2_with fail
    refine (blen_spec H).mono ?_
    rintro e w2 ⟨rfl, rfl⟩
    go_wp2_with fail
    go_ret
    exact ⟨rfl, H⟩
theorem bdouble_nil {w : World} {R : Snap} {L : Asrt} (H : Holds w R L) :
    Calls Try.prog 42 #[.pointer none, .int .i64 0] w fun e w' => e = .returned (.bool false) ∧ Holds w' R L := by
  go_enter Try.func42, Try.ntmps42
  go_wp2_with fail
  refine blen_nil.mono ?_
  rintro e w2 ⟨rfl, rfl⟩
  go_wp2_with fail
  go_ret
  exact ⟨rfl, H⟩
theorem bdouble_some {w : World} {R : Snap} {L : Asrt} {p i : Nat} {l : List Ms} {m : Ms} (H : Holds w R (star (bagA p l) L)) (hl : ∀ m ∈ l, m.Rd R.cell?) (hz : ∀ m ∈ l, m.Sz) (hi : l[i]? = some m) (hn : l.length ≤ 100000) :
    Calls Try.prog 42 #[.pointer (some ⟨p, 0, none⟩), .int .i64 i] w fun e w' => e = .returned (.bool true) ∧ ∃ R', R.le R' ∧ ∃ l' : List Ms, (∀ m ∈ l', m.Rd R'.cell?) ∧ l'.map Ms.con = l.map Ms.con ++ ([m].filter msgOk).map Ms.con ∧ Holds w' R' (star (bagA p l') L) := by
  obtain ⟨hil, hmi⟩ := List.getElem?_eq_some_iff.1 hi
  obtain ⟨a, c, H1⟩ := bag_open H
  obtain ⟨bl, ol, rfl, hx⟩ := rd_elt (f := Ms.cells) Ms.cells_len H1.swap.rowRd (by decide) hil
  rw [hmi] at hx
  have hmem : m ∈ l := by rw [← hmi]; exact List.getElem_mem hil
  have hm := hl m hmem
  have HM : Hid (m.Rd R.cell?) := Hid.mk' hm
  have HZ := Hid.mk' (hz m hmem)
  have HLL := Hid.mk' hl
  obtain ⟨kind, from_, to_, ballot, name, attempt, epoch, mark, size, what, vw, vn, vd, who, names, data⟩ := m
  obtain ⟨hw, hn, hd⟩ := hm
  simp only at hw hn hd
  obtain ⟨aw, cw, rfl⟩ := hw.form
  obtain ⟨an, cn, rfl⟩ := hn.form
  obtain ⟨ad, cd, rfl⟩ := hd.form
  have m0 : w.cell? ⟨bl, ol + i * 13, none⟩ = some (.int .i64 kind) := hx 0 _ (by omega) rfl
  have m1 : w.cell? ⟨bl, ol + i * 13 + 1, none⟩ = some (.int .i64 from_) := hx 1 _ (by omega) rfl
  have m2 : w.cell? ⟨bl, ol + i * 13 + 2, none⟩ = some (.int .i64 to_) := hx 2 _ (by omega) rfl
  have m3 : w.cell? ⟨bl, ol + i * 13 + 3, none⟩ = some (.int .i64 ballot) := hx 3 _ (by omega) rfl
  have m4 : w.cell? ⟨bl, ol + i * 13 + 4, none⟩ = some (.string name) := hx 4 _ (by omega) rfl
  have m5 : w.cell? ⟨bl, ol + i * 13 + 5, none⟩ = some (.int .i64 attempt) := hx 5 _ (by omega) rfl
  have m6 : w.cell? ⟨bl, ol + i * 13 + 6, none⟩ = some (.int .i64 epoch) := hx 6 _ (by omega) rfl
  have m7 : w.cell? ⟨bl, ol + i * 13 + 7, none⟩ = some (.int .i64 mark) := hx 7 _ (by omega) rfl
  have m8 : w.cell? ⟨bl, ol + i * 13 + 8, none⟩ = some (.int .i64 size) := hx 8 _ (by omega) rfl
  have m9 : w.cell? ⟨bl, ol + i * 13 + 9, none⟩ = some (.int .i64 what) := hx 9 _ (by omega) rfl
  have m10 : w.cell? ⟨bl, ol + i * 13 + 10, none⟩ = some (.slice aw who.length cw) := hx 10 _ (by omega) rfl
  have m11 : w.cell? ⟨bl, ol + i * 13 + 11, none⟩ = some (.slice an names.length cn) := hx 11 _ (by omega) rfl
  have m12 : w.cell? ⟨bl, ol + i * 13 + 12, none⟩ = some (.slice ad data.length cd) := hx 12 _ (by omega) rfl
  have t0 : decide ((i : Int) < 0) = false := by simp
  have t1 : decide ((l.length : Int) ≤ (i : Int)) = false := by simp; omega
  have i1 : (i : Int) < (l.length : Int) := by omega
  have i0 : (0 : Int) ≤ (i : Int) := by omega
  clear hx hw hn hd hl hi hmi hmem hz
  obtain ⟨l1, n1, c1, z1⟩ := Holds.facts (H1)
  go_enter Try.func42, Try.ntmps42
  go_wp2_with fail
  refine (blen_spec H).mono ?_
  rintro e w2 ⟨rfl, rfl⟩
  go_wp2_with fail
  refine (bput_spec (k := [(⟨kind, from_, to_, ballot, name, attempt, epoch, mark, size, what, .slice aw who.length cw, .slice an names.length cn, .slice ad data.length cd, who, names, data⟩ : Ms)]) (H.alloc #[.int .i64 kind, .int .i64 from_, .int .i64 to_, .int .i64 ballot, .string name, .int .i64 attempt, .int .i64 epoch, .int .i64 mark, .int .i64 size, .int .i64 what, .slice aw who.length cw, .slice an names.length cn, .slice ad data.length cd] tMsg).swap HLL.out (fun w' h => (h.toRow 13 1 1 (Nat.le_refl _) (by decide) rfl).rowRd) (fun m hm w' h => by rw [List.mem_singleton] at hm; subst hm; exact HM.out.world h) (fun m hm => by rw [List.mem_singleton] at hm; subst hm; exact HZ.out) (by simp; omega)).mono ?_
  rintro e w3 ⟨rfl, R3, le3, l3, hl3, hc3, H3⟩
  go_wp2_with fail
  go_ret
  exact ⟨rfl, R3, le3, l3, hl3, hc3, H3.drop2⟩

theorem ball_nil {w : World} : Calls Try.prog 46 #[.pointer none] w fun e w' => e = .returned (.slice none 0 0) ∧ w = w' := by
  go_enter Try.func46, Try.ntmps46
  go_wp2_with fail
  refine blen_nil.mono ?_
  rintro e w2 ⟨rfl, rfl⟩
  go_wp2_with fail
  go_loopw [3, 7] (fun o i wx => o = .slice none 0 0 ∧ i = .int .i64 0 ∧ w = wx) (fun _ _ _ => 0)
  case atStart => exact ⟨rfl, rfl, rfl⟩
  case round =>
    obtain ⟨rfl, rfl, rfl⟩ := hrel
    go_wp2_with fail
    go_ret
    exact ⟨rfl, rfl⟩
def msData (M : List Ms) : List (Value × List UInt8) := M.map fun m => (m.vd, m.data)
theorem ball_spec {w : World} {R : Snap} {L : Asrt} {p : Nat} {l : List Ms} (H : Holds w R (star (bagA p l) L)) (hl : ∀ m ∈ l, m.Rd R.cell?) (hz : ∀ m ∈ l, m.Sz) (hn : l.length ≤ 100000) :
    Calls Try.prog 46 #[.pointer (some ⟨p, 0, none⟩)] w fun e w' => ∃ R', R.le R' ∧ ∃ (v' : Value) (M : List Ms), e = .returned v' ∧ M.map Ms.con = l.map Ms.con ∧ (∀ m ∈ M, RdI R'.cell? m.vw m.who ∧ RdS R'.cell? m.vn m.names) ∧ Holds w' R' (star (row tMsg 13 v' M.length (M.flatMap Ms.cells)) (star (bytesAll (msData M)) (star (bagA p l) L))) := by
  have HL := Hid.mk' hl
  have HZ := Hid.mk' hz
  clear hl hz
  go_enter Try.func46, Try.ntmps46
  go_wp2_with fail
  refine (blen_spec H).mono ?_
  rintro e w2 ⟨rfl, rfl⟩
  obtain ⟨n, hnl⟩ : ∃ n, n = l.length := ⟨_, rfl⟩
  have HN := Hid.mk' hnl
  rw [← hnl] at hn ⊢
  clear hnl
  go_wp2_with fail
  go_loopw [3, 7] (fun o i wx => ∃ (j : Nat) (R1 : Snap) (M : List Ms), i = .int .i64 j ∧ j ≤ n ∧ R.le R1 ∧ M.length = j ∧ Hid (M.map Ms.con = (l.take j).map Ms.con) ∧ Hid (∀ m ∈ M, RdI R1.cell? m.vw m.who ∧ RdS R1.cell? m.vn m.names) ∧ Holds wx R1 (star (row tMsg 13 o M.length (M.flatMap Ms.cells)) (star (bytesAll (msData M)) (star (bagA p l) L)))) (fun _ i _ => n - (intOf i).toNat)
  case atStart => exact ⟨0, R, [], rfl, Nat.zero_le _, Snap.le.refl _, rfl, Hid.mk' rfl, Hid.mk' (by simp), (show Holds w R (star (row tMsg 13 (.slice none 0 0) 0 []) (star emp (star (bagA p l) L))) by rw [emp_star]; exact H.nilRow tMsg 13)⟩
  case round =>
    clear H
    obtain ⟨j, R1, M, rfl, hj, le1, hM, hC, hA, H1⟩ := hrel
    by_cases hlt : j < n
    · have hjl : j < l.length := by rw [← HN.out]; exact hlt
      obtain ⟨ab, cb, H2⟩ := bag_open H1.pick3
      have hrd := H2.swap.rowRd
      have hm := (HL.out l[j] (List.getElem_mem hjl)).le le1
      have hz := HZ.out l[j] (List.getElem_mem hjl)
      have hT : (l.take (j + 1)).map Ms.con = (l.take j).map Ms.con ++ [(l[j]).con] := by
        rw [List.take_succ_eq_append_getElem hjl, List.map_append]; rfl
      obtain ⟨bl, ol, rfl, hx⟩ := rd_elt (f := Ms.cells) Ms.cells_len hrd (by decide) hjl
      generalize l[j] = y at hx hm hz hT
      have HT := Hid.mk' hT
      have HMY := Hid.mk' hm
      have HZY := Hid.mk' hz
      obtain ⟨kind, from_, to_, ballot, name, attempt, epoch, mark, size, what, vw, vn, vd, who, names, data⟩ := y
      obtain ⟨hw, hn, hd⟩ := hm
      obtain ⟨z1, z2, z3, z4, z5⟩ := hz
      simp only at z1 z2 z3 z4 z5 hw hn hd
      obtain ⟨aw, cw, rfl⟩ := hw.form
      obtain ⟨an, cn, rfl⟩ := hn.form
      obtain ⟨ad, cd, rfl⟩ := hd.form
      have m0 : wr.cell? ⟨bl, ol + j * 13, none⟩ = some (.int .i64 kind) := hx 0 _ (by omega) rfl
      have m1 : wr.cell? ⟨bl, ol + j * 13 + 1, none⟩ = some (.int .i64 from_) := hx 1 _ (by omega) rfl
      have m2 : wr.cell? ⟨bl, ol + j * 13 + 2, none⟩ = some (.int .i64 to_) := hx 2 _ (by omega) rfl
      have m3 : wr.cell? ⟨bl, ol + j * 13 + 3, none⟩ = some (.int .i64 ballot) := hx 3 _ (by omega) rfl
      have m4 : wr.cell? ⟨bl, ol + j * 13 + 4, none⟩ = some (.string name) := hx 4 _ (by omega) rfl
      have m5 : wr.cell? ⟨bl, ol + j * 13 + 5, none⟩ = some (.int .i64 attempt) := hx 5 _ (by omega) rfl
      have m6 : wr.cell? ⟨bl, ol + j * 13 + 6, none⟩ = some (.int .i64 epoch) := hx 6 _ (by omega) rfl
      have m7 : wr.cell? ⟨bl, ol + j * 13 + 7, none⟩ = some (.int .i64 mark) := hx 7 _ (by omega) rfl
      have m8 : wr.cell? ⟨bl, ol + j * 13 + 8, none⟩ = some (.int .i64 size) := hx 8 _ (by omega) rfl
      have m9 : wr.cell? ⟨bl, ol + j * 13 + 9, none⟩ = some (.int .i64 what) := hx 9 _ (by omega) rfl
      have m10 : wr.cell? ⟨bl, ol + j * 13 + 10, none⟩ = some (.slice aw who.length cw) := hx 10 _ (by omega) rfl
      have m11 : wr.cell? ⟨bl, ol + j * 13 + 11, none⟩ = some (.slice an names.length cn) := hx 11 _ (by omega) rfl
      have m12 : wr.cell? ⟨bl, ol + j * 13 + 12, none⟩ = some (.slice ad data.length cd) := hx 12 _ (by omega) rfl
      rw [← HN.out] at H2
      clear hx hw hn hd hT hrd
      obtain ⟨l2, n2, c2, z2⟩ := Holds.facts (H2)
      go_wp2_with (with_reducible refine stop_append ?_)
      refine (own_spec (⟨kind, from_, to_, ballot, name, attempt, epoch, mark, size, what, .slice aw who.length cw, .slice an names.length cn, .slice ad data.length cd, who, names, data⟩ : Ms) H1 (fun w' h => HMY.out.world h) HZY.out).mono ?_
      rintro e w5 ⟨R5, le5, vw5, r1, vn5, r2, vd5, rfl, H5⟩
      obtain ⟨a5, c5, rfl⟩ := r1.form
      obtain ⟨a6, c6, rfl⟩ := r2.form
      obtain ⟨a7, c7, rfl⟩ := H5.rowRd.form
      have H7 := H5.alloc #[.int .i64 kind, .int .i64 from_, .int .i64 to_, .int .i64 ballot, .string name, .int .i64 attempt, .int .i64 epoch, .int .i64 mark, .int .i64 size, .int .i64 what, .slice a5 who.length c5, .slice a6 names.length c6, .slice a7 data.length c7] tMsg
      have hr7 : Rd _ 13 _ 1 _ := (H7.toRow 13 1 1 (Nat.le_refl _) (by simp [maxLen]) rfl).rowRd
      clear m0 m1 m2 m3 m4 m5 m6 m7 m8 m9 m10 m11 m12
      clear H1 H2 l2 n2 c2 z2
      go_wp2_with (with_reducible refine stop_append ?_)
      refine Hold.go (wpList_append rfl _ _ rfl undMsgs infoMsg rfl (by decide) rfl rfl H7.drop.swap hr7 (by simp [Value.oneCell']) (by simp only [maxLen]; omega) (by omega) ?_)
      intro v8 w8 H8
      go_wp2_with fail
      go_roundw
      case rel =>
        refine ⟨j + 1, R5, M ++ [(⟨kind, from_, to_, ballot, name, attempt, epoch, mark, size, what, .slice a5 who.length c5, .slice a6 names.length c6, .slice a7 data.length c7, who, names, data⟩ : Ms)], by go_num, hlt, le1.trans le5, by simp; omega, Hid.mk' ?_, Hid.mk' ?_, ?_⟩
        · rw [HT.out, List.map_append, hC.out]; rfl
        · intro m hm
          rcases List.mem_append.1 hm with h | h
          · exact ⟨Rd.le (hA.out m h).1 le5, Rd.le (hA.out m h).2 le5⟩
          · rw [List.mem_singleton] at h; subst h; exact ⟨r1, r2⟩
        · rw [List.length_append, List.length_singleton, List.flatMap_append, msData, List.map_append, bytesAll_append, show List.map (fun m : Ms => (m.vd, m.data)) [(⟨kind, from_, to_, ballot, name, attempt, epoch, mark, size, what, .slice a5 who.length c5, .slice a6 names.length c6, .slice a7 data.length c7, who, names, data⟩ : Ms)] = [(.slice a7 data.length c7, data)] from rfl, bytesAll_one]
          exact H8.swap2.ac (by unfold msData; ac_rfl)
      case measure => simp [intOf]; omega
    · go_wp2_with fail
      go_ret
      refine ⟨R1, le1, _, M, rfl, ?_, hA.out, H1⟩
      rw [hC.out, List.take_of_length_le (by have := HN.out; omega)]
end Sh
