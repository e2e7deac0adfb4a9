/- sherdref44.B: Take, Double. -/
import Derived.Test.YtmogagcffebbaaaBagRef
set_option linter.unusedVariables false
set_option linter.unusedSimpArgs false
namespace Sh
open Go Go.RowKit Go.Proofs
attribute [local go_sem ↓] Go.wp_at_zero Go.wp_at_succ
set_option maxHeartbeats 1000000
set_option maxRecDepth 100000

theorem rbtake_none {w : World} {R : Snap} {L : Asrt} {pb : Nat} {a : Option Addr} {c k : Nat} {n : Int} (H : Holds w R (star (blk pb #[.slice a k c] tRB) L)) (h : n < 0 ∨ (k : Int) ≤ n) :
    Calls Try.prog 40 #[.pointer (some ⟨pb, 0, none⟩), .int .i64 n] w fun e w' => e = .returned (.tuple #[.agg zeroMs, .bool false]) ∧ Holds w' R (star (blk pb #[.slice a k c] tRB) L) := by
  have H2 := H.alloc zeroMs tMsg
  obtain ⟨l1, n1, c1, z1⟩ := Holds.facts (H)
  by_cases h0 : n < 0
  · have t0 : decide (n < 0) = true := by simpa using h0
    go_enter Try.func40, Try.ntmps40
    go_wp2_with fail
    refine bodyPost_ret (results_cell2 rfl _ _ w.heap.size tMsg _ (0, 0) _ rfl H2.blkAt Try.underlying63 rfl (by kernel_rfl)) rfl ?_
    exact ⟨rfl, H2.drop⟩
  · have t0 : decide (n < 0) = false := by simpa using h0
    have t1 : decide ((k : Int) ≤ n) = true := by simp; omega
    go_enter Try.func40, Try.ntmps40
    go_wp2_with fail
    refine bodyPost_ret (results_cell2 rfl _ _ w.heap.size tMsg _ (0, 0) _ rfl H2.blkAt Try.underlying63 rfl (by kernel_rfl)) rfl ?_
    exact ⟨rfl, H2.drop⟩
theorem rbdouble_none {w : World} {R : Snap} {L : Asrt} {pb : Nat} {a : Option Addr} {c k : Nat} {n : Int} (H : Holds w R (star (blk pb #[.slice a k c] tRB) L)) (h : n < 0 ∨ (k : Int) ≤ n) :
    Calls Try.prog 43 #[.pointer (some ⟨pb, 0, none⟩), .int .i64 n] w fun e w' => e = .returned (.bool false) ∧ Holds w' R (star (blk pb #[.slice a k c] tRB) L) := by
  obtain ⟨l1, n1, c1, z1⟩ := Holds.facts (H)
  by_cases h0 : n < 0
  · have t0 : decide (n < 0) = true := by simpa using h0
    go_enter Try.func43, Try.ntmps43
    go_wp2_with fail
    go_ret
    exact ⟨rfl, H⟩
  · have t0 : decide (n < 0) = false := by simpa using h0
    have t1 : decide ((k : Int) ≤ n) = true := by simp; omega
    go_enter Try.func43, Try.ntmps43
    go_wp2_with fail
    go_ret
    exact ⟨rfl, H⟩
theorem rbdouble_some {w : World} {R : Snap} {L : Asrt} {pb i : Nat} {vb : Value} {J : List Ms} {m : Ms} (H : Holds w R (star (blk pb #[vb] tRB) L)) (hJ : Rd R.cell? 13 vb J.length (J.flatMap Ms.cells)) (hJm : ∀ m ∈ J, m.Rd R.cell?) (hz : ∀ m ∈ J, m.Sz) (hi : J[i]? = some m) (hb : J.length + 1 ≤ 100000) :
    Calls Try.prog 43 #[.pointer (some ⟨pb, 0, none⟩), .int .i64 i] w fun e w' => e = .returned (.bool true) ∧ ∃ R', R.le R' ∧ ∃ vb', Rd R'.cell? 13 vb' (J ++ [m].filter msgOk).length ((J ++ [m].filter msgOk).flatMap Ms.cells) ∧ Holds w' R' (star (blk pb #[vb'] tRB) L) := by
  obtain ⟨hil, hmi⟩ := List.getElem?_eq_some_iff.1 hi
  obtain ⟨a, c, rfl⟩ := hJ.form
  obtain ⟨bl, ol, rfl, hx⟩ := rd_elt (f := Ms.cells) Ms.cells_len (hJ.world H) (by decide) hil
  rw [hmi] at hx
  have hmem : m ∈ J := by rw [← hmi]; exact List.getElem_mem hil
  have hm := hJm m hmem
  have HM : Hid (m.Rd R.cell?) := Hid.mk' hm
  have HZ := Hid.mk' (hz m hmem)
  have HJM := Hid.mk' hJm
  have HJ := Hid.mk' hJ
  obtain ⟨kind, from_, to_, ballot, name, attempt, epoch, mark, size, what, vw, vn, vd, who, names, data⟩ := m
  obtain ⟨hw, hn, hd⟩ := hm
  simp only at hw hn hd
  obtain ⟨aw, cw, rfl⟩ := hw.form
  obtain ⟨an, cn, rfl⟩ := hn.form
  obtain ⟨ad, cd, rfl⟩ := hd.form
  have m0 : w.cell? ⟨bl, ol + i * 13, none⟩ = some (.int .i64 kind) := hx 0 _ (by omega) rfl
  have m1 : w.cell? ⟨bl, ol + i * 13 + 1, none⟩ = some (.int .i64 from_) := hx 1 _ (by omega) rfl
  have m2 : w.cell? ⟨bl, ol + i * 13 + 2, none⟩ = some (.int .i64 to_) := hx 2 _ (by omega) rfl
  have m3 : w.cell? ⟨bl, ol + i * 13 + 3, none⟩ = some (.int .i64 ballot) := hx 3 _ (by omega) rfl
  have m4 : w.cell? ⟨bl, ol + i * 13 + 4, none⟩ = some (.string name) := hx 4 _ (by omega) rfl
  have m5 : w.cell? ⟨bl, ol + i * 13 + 5, none⟩ = some (.int .i64 attempt) := hx 5 _ (by omega) rfl
  have m6 : w.cell? ⟨bl, ol + i * 13 + 6, none⟩ = some (.int .i64 epoch) := hx 6 _ (by omega) rfl
  have m7 : w.cell? ⟨bl, ol + i * 13 + 7, none⟩ = some (.int .i64 mark) := hx 7 _ (by omega) rfl
  have m8 : w.cell? ⟨bl, ol + i * 13 + 8, none⟩ = some (.int .i64 size) := hx 8 _ (by omega) rfl
  have m9 : w.cell? ⟨bl, ol + i * 13 + 9, none⟩ = some (.int .i64 what) := hx 9 _ (by omega) rfl
  have m10 : w.cell? ⟨bl, ol + i * 13 + 10, none⟩ = some (.slice aw who.length cw) := hx 10 _ (by omega) rfl
  have m11 : w.cell? ⟨bl, ol + i * 13 + 11, none⟩ = some (.slice an names.length cn) := hx 11 _ (by omega) rfl
  have m12 : w.cell? ⟨bl, ol + i * 13 + 12, none⟩ = some (.slice ad data.length cd) := hx 12 _ (by omega) rfl
  have t0 : decide ((i : Int) < 0) = false := by simp
  have t1 : decide ((J.length : Int) ≤ (i : Int)) = false := by simp; omega
  have i1 : (i : Int) < (J.length : Int) := by omega
  have i0 : (0 : Int) ≤ (i : Int) := by omega
  clear hx hw hn hd hJ hJm hi hmi hmem hz
  obtain ⟨l1, n1, c1, z1⟩ := Holds.facts (H)
  have H1 := (H.alloc #[.int .i64 kind, .int .i64 from_, .int .i64 to_, .int .i64 ballot, .string name, .int .i64 attempt, .int .i64 epoch, .int .i64 mark, .int .i64 size, .int .i64 what, .slice aw who.length cw, .slice an names.length cn, .slice ad data.length cd] tMsg)
  obtain ⟨R2, le2, H2, hb2⟩ := H1.freezeBlk
  go_enter Try.func43, Try.ntmps43
  go_wp2_with fail
  refine (rbput_spec (k := [(⟨kind, from_, to_, ballot, name, attempt, epoch, mark, size, what, .slice aw who.length cw, .slice an names.length cn, .slice ad data.length cd, who, names, data⟩ : Ms)]) H2 (Rd.le HJ.out le2) (fun m hm => (HJM.out m hm).le le2) ?_ (fun m hm => by rw [List.mem_singleton] at hm; subst hm; exact HM.out.le le2) (fun m hm => by rw [List.mem_singleton] at hm; subst hm; exact HZ.out) (by simpa using hb)).mono ?_
  · refine ⟨_, _, rfl, Nat.le_refl _, by simp [maxLen], rfl, (fun e => by cases e), ?_⟩
    intro b' o' s e j u hu
    simp only [Option.some.injEq, Addr.mk.injEq] at e
    obtain ⟨rfl, rfl, rfl⟩ := e
    refine ⟨rfl, ?_⟩
    unfold Snap.cell?
    simp only [hb2, Nat.zero_add]
    simpa [Ms.cells] using hu
  rintro e w3 ⟨rfl, R3, le3, v3, hr3, H3⟩
  go_wp2_with fail
  go_ret
  exact ⟨rfl, R3, le2.trans le3, v3, hr3, H3⟩
theorem rbtake_some {w : World} {R : Snap} {L : Asrt} {pb i : Nat} {vb : Value} {J : List Ms} {m : Ms} (H : Holds w R (star (blk pb #[vb] tRB) L)) (hJ : Rd R.cell? 13 vb J.length (J.flatMap Ms.cells)) (hJm : ∀ m ∈ J, m.Rd R.cell?) (hi : J[i]? = some m) (hb : J.length ≤ 100000) :
    Calls Try.prog 40 #[.pointer (some ⟨pb, 0, none⟩), .int .i64 i] w fun e w' => e = .returned (.tuple #[.agg m.cells.toArray, .bool true]) ∧ ∃ R', R.le R' ∧ ∃ vb', Rd R'.cell? 13 vb' (J.take i ++ J.drop (i + 1)).length ((J.take i ++ J.drop (i + 1)).flatMap Ms.cells) ∧ Holds w' R' (star (blk pb #[vb'] tRB) L) := by
  obtain ⟨hil, hmi⟩ := List.getElem?_eq_some_iff.1 hi
  obtain ⟨a, c, rfl⟩ := hJ.form
  have hB := hJ.bounds
  have hone := Hid.mk' (msgs_one hJm)
  have hpre := Hid.mk' (hJ.pre i (by omega))
  have hsub := Hid.mk' (hJ.sub (i + 1) J.length c (by omega) (Nat.le_refl _) hB.1 (Nat.le_refl _))
  obtain ⟨bl, ol, rfl, hx⟩ := rd_elt (f := Ms.cells) Ms.cells_len (hJ.world H) (by decide) hil
  rw [hmi] at hx
  have hmem : m ∈ J := by rw [← hmi]; exact List.getElem_mem hil
  have hm := hJm m hmem
  obtain ⟨k, hk⟩ : ∃ k, k = J.length := ⟨_, rfl⟩
  have HK := Hid.mk' hk
  rw [← hk] at H hB hsub hil hb
  obtain ⟨kind, from_, to_, ballot, name, attempt, epoch, mark, size, what, vw, vn, vd, who, names, data⟩ := m
  obtain ⟨hw, hn, hd⟩ := hm
  simp only at hw hn hd
  obtain ⟨aw, cw, rfl⟩ := hw.form
  obtain ⟨an, cn, rfl⟩ := hn.form
  obtain ⟨ad, cd, rfl⟩ := hd.form
  have m0 : w.cell? ⟨bl, ol + i * 13, none⟩ = some (.int .i64 kind) := hx 0 _ (by omega) rfl
  have m1 : w.cell? ⟨bl, ol + i * 13 + 1, none⟩ = some (.int .i64 from_) := hx 1 _ (by omega) rfl
  have m2 : w.cell? ⟨bl, ol + i * 13 + 2, none⟩ = some (.int .i64 to_) := hx 2 _ (by omega) rfl
  have m3 : w.cell? ⟨bl, ol + i * 13 + 3, none⟩ = some (.int .i64 ballot) := hx 3 _ (by omega) rfl
  have m4 : w.cell? ⟨bl, ol + i * 13 + 4, none⟩ = some (.string name) := hx 4 _ (by omega) rfl
  have m5 : w.cell? ⟨bl, ol + i * 13 + 5, none⟩ = some (.int .i64 attempt) := hx 5 _ (by omega) rfl
  have m6 : w.cell? ⟨bl, ol + i * 13 + 6, none⟩ = some (.int .i64 epoch) := hx 6 _ (by omega) rfl
  have m7 : w.cell? ⟨bl, ol + i * 13 + 7, none⟩ = some (.int .i64 mark) := hx 7 _ (by omega) rfl
  have m8 : w.cell? ⟨bl, ol + i * 13 + 8, none⟩ = some (.int .i64 size) := hx 8 _ (by omega) rfl
  have m9 : w.cell? ⟨bl, ol + i * 13 + 9, none⟩ = some (.int .i64 what) := hx 9 _ (by omega) rfl
  have m10 : w.cell? ⟨bl, ol + i * 13 + 10, none⟩ = some (.slice aw who.length cw) := hx 10 _ (by omega) rfl
  have m11 : w.cell? ⟨bl, ol + i * 13 + 11, none⟩ = some (.slice an names.length cn) := hx 11 _ (by omega) rfl
  have m12 : w.cell? ⟨bl, ol + i * 13 + 12, none⟩ = some (.slice ad data.length cd) := hx 12 _ (by omega) rfl
  have lbl : bl < w.heap.size := World.block_lt_of_cell? w _ m0
  have nbl : w.heap.size ≠ bl := by omega
  have t0 : decide ((i : Int) < 0) = false := by simp
  have t1 : decide ((k : Int) ≤ (i : Int)) = false := by simp; omega
  have i1 : (i : Int) < (k : Int) := by omega
  have i0 : (0 : Int) ≤ (i : Int) := by omega
  have j1 : i ≤ c := by omega
  have j2 : (i : Int) ≤ (c : Int) := by omega
  have j3 : (0 : Int) ≤ (i : Int) + 1 := by omega
  have j4 : (i : Int) + 1 ≤ (k : Int) := by omega
  have j5 : ((i : Int) + 1).toNat = i + 1 := by omega
  clear hx hw hn hd hJ hJm hi hmi hmem hB hk
  obtain ⟨l1, n1, c1, z1⟩ := Holds.facts (H)
  have H1 := ((H.alloc zeroMs tMsg).alloc #[.int .i64 kind, .int .i64 from_, .int .i64 to_, .int .i64 ballot, .string name, .int .i64 attempt, .int .i64 epoch, .int .i64 mark, .int .i64 size, .int .i64 what, .slice aw who.length cw, .slice an names.length cn, .slice ad data.length cd] tMsg)
  simp only [World.size_alloc] at H1
  go_enter Try.func40, Try.ntmps40
  go_upto_region 4 with fail
  generalize (World.alloc ..) = w3 at H1 ⊢
  generalize w.heap.size + 1 = gx at H1 ⊢
  generalize w.heap.size = gz at H1 lbl nbl ⊢
  clear m0 m1 m2 m3 m4 m5 m6 m7 m8 m9 m10 m11 m12
  clear l1 n1 c1 z1 H
  obtain ⟨l1, n1, c1, z1⟩ := Holds.facts (H1.pick3)
  have H2 : Holds _ R (star (row tMsg 13 _ 0 []) _) := ((H1.alloc #[] tMsg).toRow 13 0 0 (Nat.le_refl _) (Nat.zero_le _) rfl)
  go_wp2_with (with_reducible refine stop_append ?_)
  have hX : ∀ (ys : List Value), (∀ y ∈ ys, y ∈ J.flatMap Ms.cells) → ∀ y ∈ ys, y.oneCell' = true := fun ys h y hy => hone.out y (h y hy)
  refine Hold.go (wpList_append rfl _ _ rfl undMsgs infoMsg rfl (by decide) rfl rfl H2 (hpre.out.world H2) (hX _ fun y hy => List.mem_of_mem_take hy) (by simp only [maxLen]; omega) (by omega) ?_)
  intro v5 w5 H5
  rw [Nat.zero_add, List.nil_append] at H5
  obtain ⟨a5, c5, rfl⟩ := H5.rowRd.form
  clear l1 n1 c1 z1 H1 H2
  obtain ⟨l1, n1, c1, z1⟩ := Holds.facts (H5.pick4)
  go_wp2_with (with_reducible refine stop_append ?_)
  refine Hold.go (wpList_append rfl _ _ rfl undMsgs infoMsg rfl (by decide) rfl rfl H5 (hsub.out.world H5) (hX _ fun y hy => List.mem_of_mem_drop (List.mem_of_mem_take hy)) (by simp only [maxLen]; omega) (by omega) ?_)
  intro v6 w6 H6
  obtain ⟨a6, c6, rfl⟩ := H6.rowRd.form
  clear l1 n1 c1 z1 H5
  obtain ⟨l1, n1, c1, z1⟩ := Holds.facts (H6.pick4)
  obtain ⟨l2, n2, c2, z2⟩ := Holds.facts (H6.swap)
  obtain ⟨l3, n3, c3, z3⟩ := Holds.facts (H6.pick3)
  obtain ⟨s1, s2⟩ := Holds.apart H6.drop
  obtain ⟨s3, s4⟩ := Holds.apart H6.drop.drop
  obtain ⟨s5, s6⟩ := Holds.apart H6.drop.drop2
  go_wp2_with fail
  have H7 := ((H6.pick4.set 0 (.slice a6 (i + (k - (i + 1))) c6)).pick4).blkFull [.int .i64 kind, .int .i64 from_, .int .i64 to_, .int .i64 ballot, .string name, .int .i64 attempt, .int .i64 epoch, .int .i64 mark, .int .i64 size, .int .i64 what, .slice aw who.length cw, .slice an names.length cn, .slice ad data.length cd] rfl
  clear H6 l1 n1 c1 z1 l2 n2 c2 z2 l3 n3 c3 z3
  generalize hw9 : World.setCell .. = w9
  replace H7 := Holds.at hw9 H7
  clear hw9
  refine bodyPost_ret (results_cell2 rfl _ _ gz tMsg _ (0, 0) _ rfl H7.blkAt Try.underlying63 rfl (by kernel_rfl)) rfl ?_
  obtain ⟨R9, le9, H9, r9⟩ := H7.drop.swap.freezeRow
  refine ⟨rfl, R9, le9, .slice a6 (i + (k - (i + 1))) c6, ?_, H9.drop2⟩
  have hkk := HK.out
  have e1 : (J.take i ++ J.drop (i + 1)).length = i + (k - (i + 1)) := by rw [List.length_append, List.length_take, List.length_drop]; omega
  have e2 : (J.flatMap Ms.cells).take (i * 13) ++ ((J.flatMap Ms.cells).drop ((i + 1) * 13)).take ((k - (i + 1)) * 13) = (J.take i ++ J.drop (i + 1)).flatMap Ms.cells := by
    have e3 : ((J.drop (i + 1)).flatMap Ms.cells).take ((k - (i + 1)) * 13) = (J.drop (i + 1)).flatMap Ms.cells := List.take_of_length_le (by rw [flat_len Ms.cells 13 Ms.cells_len, List.length_drop]; exact Nat.mul_le_mul_right _ (by omega))
    rw [flat_take Ms.cells 13 Ms.cells_len, flat_drop Ms.cells 13 Ms.cells_len, e3, List.flatMap_append]
  rw [e1, ← e2]
  exact r9
end Sh
