/- slices.Delete of messages; bag.Take. -/
import Derived.Test.YtmogagcffebbaaaBag
import Derived.Deep.RegionLaw
set_option linter.unusedVariables false
set_option linter.unusedSimpArgs false
namespace Sh
open Go Go.RowKit Go.Proofs
attribute [local go_sem ↓] Go.wp_at_zero Go.wp_at_succ
set_option maxHeartbeats 1000000
set_option maxRecDepth 100000

theorem zeroMsg (w : World) : (zeroValue tMsg).run Try.prog w = .ok (.agg zeroMs) w := by kernel_rfl
theorem zeroMsg1 : (Builtin.zeroCells (Value.agg zeroMs).cells 1).toList = zeroMs.toList := by first | kernel_rfl | (simp [Builtin.zeroCells, Value.cells]) | decide
theorem delete_spec {w : World} {R : Snap} {L : Asrt} {g m cap i : Nat} {l : List Ms} (H : Holds w R (star (row tMsg 13 (.slice (some ⟨g, 0, none⟩) (m + 1) cap) (m + 1) (l.flatMap Ms.cells)) L)) (hlm : l.length = m + 1) (hi : i ≤ m) (hm : m ≤ 1000000) (hone : ∀ u ∈ l.flatMap Ms.cells, u.oneCell' = true) :
    Calls Try.prog 112 #[.slice (some ⟨g, 0, none⟩) (m + 1) cap, .int .i64 i, .int .i64 ((i : Int) + 1)] w fun e w' => e = .returned (.slice (some ⟨g, 0, none⟩) m cap) ∧ Holds w' R (star (row tMsg 13 (.slice (some ⟨g, 0, none⟩) m cap) m ((l.take i ++ l.drop (i + 1)).flatMap Ms.cells)) L) := by
  obtain ⟨news, hnews⟩ : ∃ news, news = (l.drop (i + 1)).flatMap Ms.cells := ⟨_, rfl⟩
  have hlen : news.length = (m - i) * 13 := by rw [hnews, flat_len Ms.cells 13 Ms.cells_len, List.length_drop, hlm]; congr 1; omega
  have hone2 : ∀ u ∈ news, u.oneCell' = true := by
    intro u hu
    rw [hnews] at hu
    obtain ⟨x, hx, hu⟩ := List.mem_flatMap.1 hu
    exact hone u (List.mem_flatMap.2 ⟨x, List.mem_of_mem_drop hx, hu⟩)
  obtain ⟨cur, hg, hcur, hcap, htk, _⟩ := H.rowAll
  have hget : ∀ t u, news[t]? = some u → cur[(i + 1) * 13 + t]? = some u := by
    intro t u hu
    have h2 : (l.flatMap Ms.cells)[(i + 1) * 13 + t]? = some u := by
      rw [hnews] at hu
      rw [← flat_drop Ms.cells 13 Ms.cells_len, List.getElem?_drop] at hu
      exact hu
    rw [← htk, List.getElem?_take] at h2
    split at h2
    · simpa using h2
    · cases h2
  have cg := cell_of_blk hg
  have fg := frozen_of_blk hg
  have lg : g < w.heap.size := (Array.getElem?_eq_some_iff.1 hg).1
  obtain ⟨A, hA, hsrc⟩ : ∃ A : Addr, adr (some ⟨g, 0, none⟩) cap (i + 1) 13 = some A ∧ Hid (∀ t u, news[t]? = some u → w.drew.cell? (A.add t) = some u) := by
    by_cases h : cap = i + 1
    · refine ⟨⟨g, 0, none⟩, by simp [adr, h], fun t u hu => ?_⟩
      have h0 : news.length = 0 := by rw [hlen, show m - i = 0 by omega, Nat.zero_mul]
      rw [List.length_eq_zero_iff.1 h0] at hu
      simp at hu
    · refine ⟨⟨g, (i + 1) * 13, none⟩, by rw [adr, if_neg h]; simp [add_plain], fun t u hu => ?_⟩
      rw [add_plain]
      exact (cg _).trans (hget t u hu)
  have s1 : Hid (news.length = (m - i) * 13) := hlen
  have s2 : Hid (∀ u ∈ news, u.oneCell' = true) := hone2
  have s3 : Hid (∀ t, t < news.length → (w.drew.cell? ⟨g, 0 + i * 13 + t, none⟩).isSome = true ∧ w.drew.frozen? ⟨g, 0 + i * 13 + t, none⟩ = false) := by
    intro t ht
    have hb : 0 + i * 13 + t < cur.size := by rw [hlen] at ht; rw [hcur]; have := Nat.mul_le_mul_right 13 hcap; omega
    exact ⟨by show (w.cell? _).isSome = true; rw [cg, Array.getElem?_eq_getElem hb]; rfl, fg _⟩
  have H1 := Holds.rowSetCells news (0 + i * 13) _ _ H.drew (by rw [hlen]; omega)
  obtain ⟨W1, hW1⟩ : ∃ W1, W1 = w.drew.setCells g (0 + i * 13) news := ⟨_, rfl⟩
  rw [← hW1] at H1
  have hW : Hid (W1 = w.drew.setCells g (0 + i * 13) news) := hW1
  obtain ⟨cur2, hg2, hcur2, _, _, _⟩ := H1.rowAll
  have hcl : ∀ ty, (Builtin.clear_ #[tMsgs] ty #[.slice (some ⟨g, m * 13, none⟩) 1 (cap - m)]).run Try.prog W1 = .ok (.tuple #[]) (W1.setCells g (m * 13) zeroMs.toList) :=
    fun ty => run_clear_wide W1 _ _ ty _ zeroMs.toList undMsgs zeroMsg 1 zeroMsg1 (by simp [Value.oneCell']) g (m * 13) _ (by omega) (fun j hj => by
      have hj : j < 13 := hj
      rw [cell_of_blk hg2, Array.getElem?_eq_getElem (by rw [hcur2]; have := Nat.mul_le_mul_right 13 hcap; omega)]; rfl) (fun j hj => frozen_of_blk hg2 _)
  have H2 := Holds.rowSetCells zeroMs.toList (m * 13) _ _ H1 (by show m * 13 + 13 ≤ (m + 1) * 13; omega)
  have H3 := H2.rowShrink m (by omega)
  have hfin : Hid (Holds (W1.setCells g (m * 13) zeroMs.toList) R (star (row tMsg 13 (.slice (some ⟨g, 0, none⟩) m cap) m ((l.take i ++ l.drop (i + 1)).flatMap Ms.cells)) L)) := by
    refine Hid.mk' ?_
    have e : ((((l.flatMap Ms.cells).take (0 + i * 13) ++ (news ++ (l.flatMap Ms.cells).drop (0 + i * 13 + news.length))).take (m * 13)) ++ (zeroMs.toList ++ (((l.flatMap Ms.cells).take (0 + i * 13) ++ (news ++ (l.flatMap Ms.cells).drop (0 + i * 13 + news.length))).drop (m * 13 + zeroMs.toList.length)))).take (m * 13) = (l.take i ++ l.drop (i + 1)).flatMap Ms.cells := by
      have hl2 : (l.flatMap Ms.cells).length = (m + 1) * 13 := by rw [flat_len Ms.cells 13 Ms.cells_len, hlm]
      have e1 : ((l.flatMap Ms.cells).take (0 + i * 13)) = (l.take i).flatMap Ms.cells := by rw [Nat.zero_add, flat_take Ms.cells 13 Ms.cells_len]
      have hl3 : ((l.take i).flatMap Ms.cells).length = i * 13 := by rw [flat_len Ms.cells 13 Ms.cells_len, List.length_take]; congr 1; omega
      have hmi : i * 13 + (m - i) * 13 = m * 13 := by omega
      rw [List.take_append_of_le_length (by rw [List.length_take, e1]; simp only [List.length_append, hl3, hlen, List.length_drop, hl2]; omega), List.take_take, Nat.min_self, e1, ← List.append_assoc, List.take_append_of_le_length (by rw [List.length_append, hl3, hlen]; omega), List.take_of_length_le (by rw [List.length_append, hl3, hlen]; omega), hnews, List.flatMap_append]
    rw [e] at H3
    exact H3
  have j1 : i ≤ cap := by omega
  have j2 : i ≤ m := by omega
  have j3 : m + 1 ≤ cap := by omega
  have j4 : i + 1 ≤ cap := by omega
  have j5 : (0 : Int) ≤ (i : Int) + 1 := by omega
  have k1 : ((i : Int) == (i : Int) + 1) = false := by rw [beq_eq_false_iff_ne]; omega
  have k2 : ((m + 1 : Nat) : Int) = (m : Int) + 1 := by omega
  have i1 : (0 : Int) ≤ (i : Int) := by omega
  have i2 : (i : Int) + 1 ≤ (m : Int) + 1 := by omega
  have i3 : (m : Int) + 1 ≤ (cap : Int) := by omega
  have n1 : ((i : Int) + 1).toNat = i + 1 := by omega
  have n2 : m + 1 - (i + 1) = m - i := by omega
  clear H H1 H2 H3 hg hcur hcap htk hget cg fg lg hg2 hcur2 hnews hlen hone2 hone hW1
  obtain ⟨i0, hi0, _, hz1, _⟩ := info_parts infoMsg
  go_enter Try.func112, Try.ntmps112
  go_wp2_with fail
  go_region_law (refine step_append_room rfl (.tmp 22) (.tmp 25) tMsgs rfl tMsg i0 13 undMsgs hi0 hz1 g 0 i cap (by simp [Act.eval, Act.put]) A (m - i) (cap - (i + 1)) news (by simp [Act.eval, Act.put, hA]) s1.out hsrc.out s2.out (by omega) s3.out ?_; rw [← hW.out])
  have n3 : ((i + (m - i) : Nat) : Int) = (m : Int) := by omega
  have n4 : i + (m - i) = m := by omega
  go_wp2_with fail
  go_ret
  exact ⟨rfl, hfin.out⟩

theorem btake_none {w : World} {R : Snap} {L : Asrt} {p : Nat} {l : List Ms} {n : Int} (H : Holds w R (star (bagA p l) L)) (h : n < 0 ∨ (l.length : Int) ≤ n) :
    Calls Try.prog 39 #[.pointer (some ⟨p, 0, none⟩), .int .i64 n] w fun e w' => e = .returned (.tuple #[.agg zeroMs, .bool false]) ∧ Holds w' R (star (bagA p l) L) := by
  have H2 := H.alloc zeroMs tMsg
  by_cases h0 : n < 0
  · have t0 : decide (n < 0) = true := by simpa using h0
    go_enter Try.func39, Try.ntmps39
    go_wp2_with fail
    refine bodyPost_ret (results_cell2 rfl _ _ w.heap.size tMsg _ (0, 0) _ rfl H2.blkAt Try.underlying63 rfl (by kernel_rfl)) rfl ?_
    exact ⟨rfl, H2.drop⟩
  · have t0 : decide (n < 0) = false := by simpa using h0
    have t1 : decide ((l.length : Int) ≤ n) = true := by simp; omega
    go_enter Try.func39, Try.ntmps39
    go_wp2_with fail
    refine (blen_spec H2.swap).mono ?_
    rintro e w2 ⟨rfl, rfl⟩
    go_wp2_with fail
    refine bodyPost_ret (results_cell2 rfl _ _ w.heap.size tMsg _ (0, 0) _ rfl H2.blkAt Try.underlying63 rfl (by kernel_rfl)) rfl ?_
    exact ⟨rfl, H2.drop⟩
theorem btake_nil {w : World} {R : Snap} {L : Asrt} (H : Holds w R L) :
    Calls Try.prog 39 #[.pointer none, .int .i64 0] w fun e w' => e = .returned (.tuple #[.agg zeroMs, .bool false]) ∧ Holds w' R L := by
  have H2 := H.alloc zeroMs tMsg
  go_enter Try.func39, Try.ntmps39
  go_wp2_with fail
  refine blen_nil.mono ?_
  rintro e w2 ⟨rfl, rfl⟩
  go_wp2_with fail
  refine bodyPost_ret (results_cell2 rfl _ _ w.heap.size tMsg _ (0, 0) _ rfl H2.blkAt Try.underlying63 rfl (by kernel_rfl)) rfl ?_
  exact ⟨rfl, H2.drop⟩
theorem msgs_one {R : Snap} {l : List Ms} (h : ∀ m ∈ l, m.Rd R.cell?) : ∀ u ∈ l.flatMap Ms.cells, u.oneCell' = true := by
  intro u hu
  obtain ⟨x, hx, hu⟩ := List.mem_flatMap.1 hu
  exact (h x hx).one u hu
theorem btake_some {w : World} {R : Snap} {L : Asrt} {p i : Nat} {l : List Ms} {m : Ms} (H : Holds w R (star (bagA p l) L)) (hl : ∀ m ∈ l, m.Rd R.cell?) (hi : l[i]? = some m) (hn : l.length ≤ 1000000) :
    Calls Try.prog 39 #[.pointer (some ⟨p, 0, none⟩), .int .i64 i] w fun e w' => e = .returned (.tuple #[.agg m.cells.toArray, .bool true]) ∧ Holds w' R (star (bagA p (l.take i ++ l.drop (i + 1))) L) := by
  obtain ⟨hil, hmi⟩ := List.getElem?_eq_some_iff.1 hi
  obtain ⟨a, c, H1⟩ := bag_open H
  obtain ⟨k, hk⟩ : ∃ k, l.length = k + 1 := ⟨l.length - 1, by omega⟩
  obtain ⟨bl, ol, rfl, hx⟩ := rd_elt (f := Ms.cells) Ms.cells_len H1.swap.rowRd (by decide) hil
  obtain ⟨g, cg, hga, _, hg, _, _⟩ := H1.swap.rowAt (by omega)
  simp only [Value.slice.injEq, Option.some.injEq, Addr.mk.injEq, true_and, and_true] at hga
  obtain ⟨⟨rfl, rfl⟩, rfl⟩ := hga
  rw [hmi] at hx
  have hm := hl m (by rw [← hmi]; exact List.getElem_mem hil)
  have HO := Hid.mk' (msgs_one hl)
  have HK := Hid.mk' hk
  have hng : w.heap.size ≠ bl := by omega
  rw [hk] at H1
  obtain ⟨kind, from_, to_, ballot, name, attempt, epoch, mark, size, what, vw, vn, vd, who, names, data⟩ := m
  obtain ⟨hw, hn, hd⟩ := hm
  simp only at hw hn hd
  obtain ⟨aw, cw, rfl⟩ := hw.form
  obtain ⟨an, cn, rfl⟩ := hn.form
  obtain ⟨ad, cd, rfl⟩ := hd.form
  have m0 : w.cell? ⟨bl, 0 + i * 13, none⟩ = some (.int .i64 kind) := hx 0 _ (by omega) rfl
  have m1 : w.cell? ⟨bl, 0 + i * 13 + 1, none⟩ = some (.int .i64 from_) := hx 1 _ (by omega) rfl
  have m2 : w.cell? ⟨bl, 0 + i * 13 + 2, none⟩ = some (.int .i64 to_) := hx 2 _ (by omega) rfl
  have m3 : w.cell? ⟨bl, 0 + i * 13 + 3, none⟩ = some (.int .i64 ballot) := hx 3 _ (by omega) rfl
  have m4 : w.cell? ⟨bl, 0 + i * 13 + 4, none⟩ = some (.string name) := hx 4 _ (by omega) rfl
  have m5 : w.cell? ⟨bl, 0 + i * 13 + 5, none⟩ = some (.int .i64 attempt) := hx 5 _ (by omega) rfl
  have m6 : w.cell? ⟨bl, 0 + i * 13 + 6, none⟩ = some (.int .i64 epoch) := hx 6 _ (by omega) rfl
  have m7 : w.cell? ⟨bl, 0 + i * 13 + 7, none⟩ = some (.int .i64 mark) := hx 7 _ (by omega) rfl
  have m8 : w.cell? ⟨bl, 0 + i * 13 + 8, none⟩ = some (.int .i64 size) := hx 8 _ (by omega) rfl
  have m9 : w.cell? ⟨bl, 0 + i * 13 + 9, none⟩ = some (.int .i64 what) := hx 9 _ (by omega) rfl
  have m10 : w.cell? ⟨bl, 0 + i * 13 + 10, none⟩ = some (.slice aw who.length cw) := hx 10 _ (by omega) rfl
  have m11 : w.cell? ⟨bl, 0 + i * 13 + 11, none⟩ = some (.slice an names.length cn) := hx 11 _ (by omega) rfl
  have m12 : w.cell? ⟨bl, 0 + i * 13 + 12, none⟩ = some (.slice ad data.length cd) := hx 12 _ (by omega) rfl
  simp only [Nat.zero_add] at m0 m1 m2 m3 m4 m5 m6 m7 m8 m9 m10 m11 m12
  have t0 : decide ((i : Int) < 0) = false := by simp
  have t1 : decide (((k + 1 : Nat) : Int) ≤ (i : Int)) = false := by simp; omega
  have i1 : (i : Int) < ((k + 1 : Nat) : Int) := by omega
  have i0 : (0 : Int) ≤ (i : Int) := by omega
  have hk9 : k ≤ 1000000 := by omega
  have hik : i ≤ k := by omega
  clear hx hw hn hd hl hi hil hmi
  have HB := H.alloc zeroMs tMsg
  obtain ⟨l1, n1, c1, z1⟩ := Holds.facts (H1)
  have H2 := H1.alloc zeroMs tMsg
  go_enter Try.func39, Try.ntmps39
  go_wp2_with fail
  refine (blen_spec HB.swap).mono ?_
  rintro e w2 ⟨rfl, rfl⟩
  rw [HK.out]
  go_wp2_with fail
  have H4 := (H2.alloc #[.int .i64 kind, .int .i64 from_, .int .i64 to_, .int .i64 ballot, .string name, .int .i64 attempt, .int .i64 epoch, .int .i64 mark, .int .i64 size, .int .i64 what, .slice aw who.length cw, .slice an names.length cn, .slice ad data.length cd] tMsg).pick4
  simp only [World.size_alloc] at H4
  clear HB H H1 H2 l1 n1 c1 z1
  clear m0 m1 m2 m3 m4 m5 m6 m7 m8 m9 m10 m11 m12
  generalize (World.alloc ..) = w4 at H4 ⊢
  generalize w.heap.size + 1 = gx at H4 ⊢
  generalize w.heap.size = gz at H4 hng hg ⊢
  refine (delete_spec H4 HK.out hik hk9 HO.out).mono ?_
  rintro e w5 ⟨rfl, H5⟩
  clear H4
  obtain ⟨l1, n1, c1, z1⟩ := Holds.facts (H5.swap)
  obtain ⟨l2, n2, c2, z2⟩ := Holds.facts (H5.pick3)
  obtain ⟨l3, n3, c3, z3⟩ := Holds.facts (H5.pick4)
  obtain ⟨s1, s2⟩ := Holds.apart H5.drop
  obtain ⟨s3, s4⟩ := Holds.apart H5.drop.pick3
  obtain ⟨s5, s6⟩ := Holds.apart H5.drop.pick3.drop2
  go_wp2_with fail
  have H6 := (H5.pick4.set 0 (.slice (some ⟨bl, 0, none⟩) k c)).pick4
  have H9 := H6.blkFull [.int .i64 kind, .int .i64 from_, .int .i64 to_, .int .i64 ballot, .string name, .int .i64 attempt, .int .i64 epoch, .int .i64 mark, .int .i64 size, .int .i64 what, .slice aw who.length cw, .slice an names.length cn, .slice ad data.length cd] rfl
  clear H6 H5 l1 n1 c1 z1 l2 n2 c2 z2 l3 n3 c3 z3
  generalize hw9 : World.setCell .. = w9
  replace H9 := Holds.at hw9 H9
  clear hw9
  refine bodyPost_ret (results_cell2 rfl _ _ gz tMsg _ (0, 0) _ rfl H9.blkAt Try.underlying63 rfl (by kernel_rfl)) rfl ?_
  refine ⟨rfl, bag_shut (v := .slice (some ⟨bl, 0, none⟩) k c) ?_⟩
  have e : (l.take i ++ l.drop (i + 1)).length = k := by rw [List.length_append, List.length_take, List.length_drop, HK.out]; omega
  rw [e]
  exact H9.drop.pick3.drop
end Sh
