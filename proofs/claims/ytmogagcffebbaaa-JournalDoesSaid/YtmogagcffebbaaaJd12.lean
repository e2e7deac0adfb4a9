/- BagTake RecFirst RecShare SectorRef SectorMath RecMath: joined texts, each with its own sentence below. -/
import Derived.Test.YtmogagcffebbaaaJd4
import Derived.Deep.RegionLaw
import Derived.Test.YtmogagcffebbaaaJd11
import Derived.Test.YtmogagcffebbaaaJd2
import Derived.Test.YtmogagcffebbaaaJd7
import Derived.Test.YtmogagcffebbaaaJd8
/- slices.Delete of messages; bag.Take. -/
set_option linter.unusedVariables false
set_option linter.unusedSimpArgs false
namespace Sh
open Go Go.RowKit Go.Proofs
attribute [local go_sem ↓] Go.wp_at_zero Go.wp_at_succ
set_option maxHeartbeats 1000000
set_option maxRecDepth 100000

theorem zeroMsg (w : World) : (zeroValue tMsg).run Try.prog w = .ok (.agg zeroMs) w := by kernel_rfl
theorem zeroMsg1 : (Builtin.zeroCells (Value.agg zeroMs).cells 1).toList = zeroMs.toList := by first | kernel_rfl | (simp [Builtin.zeroCells, Value.cells]) | decide
theorem delete_spec {w : World} {R : Snap} {L : Asrt} {g m cap i : Nat} {l : List Ms} (H : Holds w R (star (row tMsg 13 (.slice (some ⟨g, 0, none⟩) (m + 1) cap) (m + 1) (l.flatMap Ms.cells)) L)) (hlm : l.length = m + 1) (hi : i ≤ m) (hm : m ≤ 1000000) (hone : ∀ u ∈ l.flatMap Ms.cells, u.oneCell' = true) :
    Calls Try.prog 112 #[.slice (some ⟨g, 0, none⟩) (m + 1) cap, .int .i64 i, .int .i64 ((i : Int) + 1)] w fun e w' => e = .returned (.slice (some ⟨g, 0, none⟩) m cap) ∧ Holds w' R (star (row tMsg 13 (.slice (some ⟨g, 0, none⟩) m cap) m ((l.take i ++ l.drop (i + 1)).flatMap Ms.cells)) L) := by
  obtain ⟨news, hnews⟩ : ∃ news, news = (l.drop (i + 1)).flatMap Ms.cells := ⟨_, rfl⟩
  have hlen : news.length = (m - i) * 13 := by rw [hnews, flat_len Ms.cells 13 Ms.cells_len, List.length_drop, hlm]; congr 1; omega
  have hone2 : ∀ u ∈ news, u.oneCell' = true := by
    intro u hu
    rw [hnews] at hu
    obtain ⟨x, hx, hu⟩ := List.mem_flatMap.1 hu
    exact hone u (List.mem_flatMap.2 ⟨x, List.mem_of_mem_drop hx, hu⟩)
  obtain ⟨cur, hg, hcur, hcap, htk, _⟩ := H.rowAll
  have hget : ∀ t u, news[t]? = some u → cur[(i + 1) * 13 + t]? = some u := by
    intro t u hu
    have h2 : (l.flatMap Ms.cells)[(i + 1) * 13 + t]? = some u := by
      rw [hnews] at hu
      rw [← flat_drop Ms.cells 13 Ms.cells_len, List.getElem?_drop] at hu
      exact hu
    rw [← htk, List.getElem?_take] at h2
    split at h2
    · simpa using h2
    · cases h2
  have cg := cell_of_blk hg
  have fg := frozen_of_blk hg
  have lg : g < w.heap.size := (Array.getElem?_eq_some_iff.1 hg).1
  obtain ⟨A, hA, hsrc⟩ : ∃ A : Addr, adr (some ⟨g, 0, none⟩) cap (i + 1) 13 = some A ∧ Hid (∀ t u, news[t]? = some u → w.drew.cell? (A.add t) = some u) := by
    by_cases h : cap = i + 1
    · refine ⟨⟨g, 0, none⟩, by simp [adr, h], fun t u hu => ?_⟩
      have h0 : news.length = 0 := by rw [hlen, show m - i = 0 by omega, Nat.zero_mul]
      rw [List.length_eq_zero_iff.1 h0] at hu
      simp at hu
    · refine ⟨⟨g, (i + 1) * 13, none⟩, by rw [adr, if_neg h]; simp [add_plain], fun t u hu => ?_⟩
      rw [add_plain]
      exact (cg _).trans (hget t u hu)
  have s1 : Hid (news.length = (m - i) * 13) := hlen
  have s2 : Hid (∀ u ∈ news, u.oneCell' = true) := hone2
  have s3 : Hid (∀ t, t < news.length → (w.drew.cell? ⟨g, 0 + i * 13 + t, none⟩).isSome = true ∧ w.drew.frozen? ⟨g, 0 + i * 13 + t, none⟩ = false) := by
    intro t ht
    have hb : 0 + i * 13 + t < cur.size := by rw [hlen] at ht; rw [hcur]; have := Nat.mul_le_mul_right 13 hcap; omega
    exact ⟨by show (w.cell? _).isSome = true; rw [cg, Array.getElem?_eq_getElem hb]; rfl, fg _⟩
  have H1 := Holds.rowSetCells news (0 + i * 13) _ _ H.drew (by rw [hlen]; omega)
  obtain ⟨W1, hW1⟩ : ∃ W1, W1 = w.drew.setCells g (0 + i * 13) news := ⟨_, rfl⟩
  rw [← hW1] at H1
  have hW : Hid (W1 = w.drew.setCells g (0 + i * 13) news) := hW1
  obtain ⟨cur2, hg2, hcur2, _, _, _⟩ := H1.rowAll
  have hcl : ∀ ty, (Builtin.clear_ #[tMsgs] ty #[.slice (some ⟨g, m * 13, none⟩) 1 (cap - m)]).run Try.prog W1 = .ok (.tuple #[]) (W1.setCells g (m * 13) zeroMs.toList) :=
    fun ty => run_clear_wide W1 _ _ ty _ zeroMs.toList undMsgs zeroMsg 1 zeroMsg1 (by simp [Value.oneCell']) g (m * 13) _ (by omega) (fun j hj => by
      have hj : j < 13 := hj
      rw [cell_of_blk hg2, Array.getElem?_eq_getElem (by rw [hcur2]; have := Nat.mul_le_mul_right 13 hcap; omega)]; rfl) (fun j hj => frozen_of_blk hg2 _)
  have H2 := Holds.rowSetCells zeroMs.toList (m * 13) _ _ H1 (by show m * 13 + 13 ≤ (m + 1) * 13; omega)
  have H3 := H2.rowShrink m (by omega)
  have hfin : Hid (Holds (W1.setCells g (m * 13) zeroMs.toList) R (star (row tMsg 13 (.slice (some ⟨g, 0, none⟩) m cap) m ((l.take i ++ l.drop (i + 1)).flatMap Ms.cells)) L)) := by
    refine Hid.mk' ?_
    have e : ((((l.flatMap Ms.cells).take (0 + i * 13) ++ (news ++ (l.flatMap Ms.cells).drop (0 + i * 13 + news.length))).take (m * 13)) ++ (zeroMs.toList ++ (((l.flatMap Ms.cells).take (0 + i * 13) ++ (news ++ (l.flatMap Ms.cells).drop (0 + i * 13 + news.length))).drop (m * 13 + zeroMs.toList.length)))).take (m * 13) = (l.take i ++ l.drop (i + 1)).flatMap Ms.cells := by
      have hl2 : (l.flatMap Ms.cells).length = (m + 1) * 13 := by rw [flat_len Ms.cells 13 Ms.cells_len, hlm]
      have e1 : ((l.flatMap Ms.cells).take (0 + i * 13)) = (l.take i).flatMap Ms.cells := by rw [Nat.zero_add, flat_take Ms.cells 13 Ms.cells_len]
      have hl3 : ((l.take i).flatMap Ms.cells).length = i * 13 := by rw [flat_len Ms.cells 13 Ms.cells_len, List.length_take]; congr 1; omega
      have hmi : i * 13 + (m - i) * 13 = m * 13 := by omega
      rw [List.take_append_of_le_length (by rw [List.length_take, e1]; simp only [List.length_append, hl3, hlen, List.length_drop, hl2]; omega), List.take_take, Nat.min_self, e1, ← List.append_assoc, List.take_append_of_le_length (by rw [List.length_append, hl3, hlen]; omega), List.take_of_length_le (by rw [List.length_append, hl3, hlen]; omega), hnews, List.flatMap_append]
    rw [e] at H3
    exact H3
  have j1 : i ≤ cap := by omega
  have j2 : i ≤ m := by omega
  have j3 : m + 1 ≤ cap := by omega
  have j4 : i + 1 ≤ cap := by omega
  have j5 : (0 : Int) ≤ (i : Int) + 1 := by omega
  have k1 : ((i : Int) == (i : Int) + 1) = false := by rw [beq_eq_false_iff_ne]; omega
  have k2 : ((m + 1 : Nat) : Int) = (m : Int) + 1 := by omega
  have i1 : (0 : Int) ≤ (i : Int) := by omega
  have i2 : (i : Int) + 1 ≤ (m : Int) + 1 := by omega
  have i3 : (m : Int) + 1 ≤ (cap : Int) := by omega
  have n1 : ((i : Int) + 1).toNat = i + 1 := by omega
  have n2 : m + 1 - (i + 1) = m - i := by omega
  clear H H1 H2 H3 hg hcur hcap htk hget cg fg lg hg2 hcur2 hnews hlen hone2 hone hW1
  obtain ⟨i0, hi0, _, hz1, _⟩ := info_parts infoMsg
  go_enter Try.func112, Try.ntmps112
  go_wp2_with fail
  go_region_law (refine step_append_room rfl (.tmp 22) (.tmp 25) tMsgs rfl tMsg i0 13 undMsgs hi0 hz1 g 0 i cap (by simp [Act.eval, Act.put]) A (m - i) (cap - (i + 1)) news (by simp [Act.eval, Act.put, hA]) s1.out hsrc.out s2.out (by omega) s3.out ?_; rw [← hW.out])
  have n3 : ((i + (m - i) : Nat) : Int) = (m : Int) := by omega
  have n4 : i + (m - i) = m := by omega
  go_wp2_with fail
  go_ret
  exact ⟨rfl, hfin.out⟩

theorem btake_none {w : World} {R : Snap} {L : Asrt} {p : Nat} {l : List Ms} {n : Int} (H : Holds w R (star (bagA p l) L)) (h : n < 0 ∨ (l.length : Int) ≤ n) :
    Calls Try.prog 39 #[.pointer (some ⟨p, 0, none⟩), .int .i64 n] w fun e w' => e = .returned (.tuple #[.agg zeroMs, .bool false]) ∧ Holds w' R (star (bagA p l) L) := by
  have H2 := H.alloc zeroMs tMsg
  by_cases h0 : n < 0
  · have t0 : decide (n < 0) = true := by simpa using h0
    go_enter Try.func39, Try.ntmps39
    go_wp2_with fail
    refine bodyPost_ret (results_cell2 rfl _ _ w.heap.size tMsg _ (0, 0) _ rfl H2.blkAt Try.underlying63 rfl (by kernel_rfl)) rfl ?_
    exact ⟨rfl, H2.drop⟩
  · have t0 : decide (n < 0) = false := by simpa using h0
    have t1 : decide ((l.length : Int) ≤ n) = true := by simp; omega
    go_enter Try.func39, Try.ntmps39
    go_wp2_with fail
    refine (blen_spec H2.swap).mono ?_
    rintro e w2 ⟨rfl, rfl⟩
    go_wp2_with fail
    refine bodyPost_ret (results_cell2 rfl _ _ w.heap.size tMsg _ (0, 0) _ rfl H2.blkAt Try.underlying63 rfl (by kernel_rfl)) rfl ?_
    exact ⟨rfl, H2.drop⟩
theorem btake_nil {w : World} {R : Snap} {L : Asrt} (H : Holds w R L) :
    Calls Try.prog 39 #[.pointer none, .int .i64 0] w fun e w' => e = .returned (.tuple #[.agg zeroMs, .bool false]) ∧ Holds w' R L := by
  have H2 := H.alloc zeroMs tMsg
  go_enter Try.func39, Try.ntmps39
  go_wp2_with fail
  refine blen_nil.mono ?_
  rintro e w2 ⟨rfl, rfl⟩
  go_wp2_with fail
  refine bodyPost_ret (results_cell2 rfl _ _ w.heap.size tMsg _ (0, 0) _ rfl H2.blkAt Try.underlying63 rfl (by kernel_rfl)) rfl ?_
  exact ⟨rfl, H2.drop⟩
theorem msgs_one {R : Snap} {l : List Ms} (h : ∀ m ∈ l, m.Rd R.cell?) : ∀ u ∈ l.flatMap Ms.cells, u.oneCell' = true := by
  intro u hu
  obtain ⟨x, hx, hu⟩ := List.mem_flatMap.1 hu
  exact (h x hx).one u hu
theorem btake_some {w : World} {R : Snap} {L : Asrt} {p i : Nat} {l : List Ms} {m : Ms} (H : Holds w R (star (bagA p l) L)) (hl : ∀ m ∈ l, m.Rd R.cell?) (hi : l[i]? = some m) (hn : l.length ≤ 1000000) :
    Calls Try.prog 39 #[.pointer (some ⟨p, 0, none⟩), .int .i64 i] w fun e w' => e = .returned (.tuple #[.agg m.cells.toArray, .bool true]) ∧ Holds w' R (star (bagA p (l.take i ++ l.drop (i + 1))) L) := by
  obtain ⟨hil, hmi⟩ := List.getElem?_eq_some_iff.1 hi
  obtain ⟨a, c, H1⟩ := bag_open H
  obtain ⟨k, hk⟩ : ∃ k, l.length = k + 1 := ⟨l.length - 1, by omega⟩
  obtain ⟨bl, ol, rfl, hx⟩ := rd_elt (f := Ms.cells) Ms.cells_len H1.swap.rowRd (by decide) hil
  obtain ⟨g, cg, hga, _, hg, _, _⟩ := H1.swap.rowAt (by omega)
  simp only [Value.slice.injEq, Option.some.injEq, Addr.mk.injEq, true_and, and_true] at hga
  obtain ⟨⟨rfl, rfl⟩, rfl⟩ := hga
  rw [hmi] at hx
  have hm := hl m (by rw [← hmi]; exact List.getElem_mem hil)
  have HO := Hid.mk' (msgs_one hl)
  have HK := Hid.mk' hk
  have hng : w.heap.size ≠ bl := by omega
  rw [hk] at H1
  obtain ⟨kind, from_, to_, ballot, name, attempt, epoch, mark, size, what, vw, vn, vd, who, names, data⟩ := m
  obtain ⟨hw, hn, hd⟩ := hm
  simp only at hw hn hd
  obtain ⟨aw, cw, rfl⟩ := hw.form
  obtain ⟨an, cn, rfl⟩ := hn.form
  obtain ⟨ad, cd, rfl⟩ := hd.form
  have m0 : w.cell? ⟨bl, 0 + i * 13, none⟩ = some (.int .i64 kind) := hx 0 _ (by omega) rfl
  have m1 : w.cell? ⟨bl, 0 + i * 13 + 1, none⟩ = some (.int .i64 from_) := hx 1 _ (by omega) rfl
  have m2 : w.cell? ⟨bl, 0 + i * 13 + 2, none⟩ = some (.int .i64 to_) := hx 2 _ (by omega) rfl
  have m3 : w.cell? ⟨bl, 0 + i * 13 + 3, none⟩ = some (.int .i64 ballot) := hx 3 _ (by omega) rfl
  have m4 : w.cell? ⟨bl, 0 + i * 13 + 4, none⟩ = some (.string name) := hx 4 _ (by omega) rfl
  have m5 : w.cell? ⟨bl, 0 + i * 13 + 5, none⟩ = some (.int .i64 attempt) := hx 5 _ (by omega) rfl
  have m6 : w.cell? ⟨bl, 0 + i * 13 + 6, none⟩ = some (.int .i64 epoch) := hx 6 _ (by omega) rfl
  have m7 : w.cell? ⟨bl, 0 + i * 13 + 7, none⟩ = some (.int .i64 mark) := hx 7 _ (by omega) rfl
  have m8 : w.cell? ⟨bl, 0 + i * 13 + 8, none⟩ = some (.int .i64 size) := hx 8 _ (by omega) rfl
  have m9 : w.cell? ⟨bl, 0 + i * 13 + 9, none⟩ = some (.int .i64 what) := hx 9 _ (by omega) rfl
  have m10 : w.cell? ⟨bl, 0 + i * 13 + 10, none⟩ = some (.slice aw who.length cw) := hx 10 _ (by omega) rfl
  have m11 : w.cell? ⟨bl, 0 + i * 13 + 11, none⟩ = some (.slice an names.length cn) := hx 11 _ (by omega) rfl
  have m12 : w.cell? ⟨bl, 0 + i * 13 + 12, none⟩ = some (.slice ad data.length cd) := hx 12 _ (by omega) rfl
  simp only [Nat.zero_add] at m0 m1 m2 m3 m4 m5 m6 m7 m8 m9 m10 m11 m12
  have t0 : decide ((i : Int) < 0) = false := by simp
  have t1 : decide (((k + 1 : Nat) : Int) ≤ (i : Int)) = false := by simp; omega
  have i1 : (i : Int) < ((k + 1 : Nat) : Int) := by omega
  have i0 : (0 : Int) ≤ (i : Int) := by omega
  have hk9 : k ≤ 1000000 := by omega
  have hik : i ≤ k := by omega
  clear hx hw hn hd hl hi hil hmi
  have HB := H.alloc zeroMs tMsg
  obtain ⟨l1, n1, c1, z1⟩ := Holds.facts (H1)
  have H2 := H1.alloc zeroMs tMsg
  go_enter Try.func39, Try.ntmps39
  go_wp2_with fail
  refine (blen_spec HB.swap).mono ?_
  rintro e w2 ⟨rfl, rfl⟩
  rw [HK.out]
  go_wp2_with fail
  have H4 := (H2.alloc #[.int .i64 kind, .int .i64 from_, .int .i64 to_, .int .i64 ballot, .string name, .int .i64 attempt, .int .i64 epoch, .int .i64 mark, .int .i64 size, .int .i64 what, .slice aw who.length cw, .slice an names.length cn, .slice ad data.length cd] tMsg).pick4
  simp only [World.size_alloc] at H4
  clear HB H H1 H2 l1 n1 c1 z1
  clear m0 m1 m2 m3 m4 m5 m6 m7 m8 m9 m10 m11 m12
  generalize (World.alloc ..) = w4 at H4 ⊢
  generalize w.heap.size + 1 = gx at H4 ⊢
  generalize w.heap.size = gz at H4 hng hg ⊢
  refine (delete_spec H4 HK.out hik hk9 HO.out).mono ?_
  rintro e w5 ⟨rfl, H5⟩
  clear H4
  obtain ⟨l1, n1, c1, z1⟩ := Holds.facts (H5.swap)
  obtain ⟨l2, n2, c2, z2⟩ := Holds.facts (H5.pick3)
  obtain ⟨l3, n3, c3, z3⟩ := Holds.facts (H5.pick4)
  obtain ⟨s1, s2⟩ := Holds.apart H5.drop
  obtain ⟨s3, s4⟩ := Holds.apart H5.drop.pick3
  obtain ⟨s5, s6⟩ := Holds.apart H5.drop.pick3.drop2
  go_wp2_with fail
  have H6 := (H5.pick4.set 0 (.slice (some ⟨bl, 0, none⟩) k c)).pick4
  have H9 := H6.blkFull [.int .i64 kind, .int .i64 from_, .int .i64 to_, .int .i64 ballot, .string name, .int .i64 attempt, .int .i64 epoch, .int .i64 mark, .int .i64 size, .int .i64 what, .slice aw who.length cw, .slice an names.length cn, .slice ad data.length cd] rfl
  clear H6 H5 l1 n1 c1 z1 l2 n2 c2 z2 l3 n3 c3 z3
  generalize hw9 : World.setCell .. = w9
  replace H9 := Holds.at hw9 H9
  clear hw9
  refine bodyPost_ret (results_cell2 rfl _ _ gz tMsg _ (0, 0) _ rfl H9.blkAt Try.underlying63 rfl (by kernel_rfl)) rfl ?_
  refine ⟨rfl, bag_shut (v := .slice (some ⟨bl, 0, none⟩) k c) ?_⟩
  have e : (l.take i ++ l.drop (i + 1)).length = k := by rw [List.length_append, List.length_take, List.length_drop, HK.out]; omega
  rw [e]
  exact H9.drop.pick3.drop
end Sh
/- record.first: what a head says. -/
set_option linter.unusedVariables false
set_option linter.unusedSimpArgs false
namespace Sh
open Go Go.RowKit Go.Proofs
attribute [local go_sem ↓] Go.wp_at_zero Go.wp_at_succ
set_option maxHeartbeats 1000000
set_option maxRecDepth 100000

abbrev zeroRec : Array Value := #[.int .i64 0, .string ⟨#[]⟩, .int .i64 0, .int .i64 0, .int .i64 0, .int .i64 0, .slice none 0 0]
theorem rcOk_bounds {r : Rc} (hok : rcOk r = true) : nameOk r.name = true ∧ (0 ≤ r.attempt ∧ r.attempt ≤ 4294967295) ∧ (0 ≤ r.epoch ∧ r.epoch ≤ 4294967295) ∧ (0 ≤ r.mark ∧ r.mark ≤ 4294967295) ∧ (0 ≤ r.size ∧ r.size ≤ 240) ∧ r.share.length ≤ 240 ∧ (1 ≤ r.kind ∧ r.kind ≤ 5) := by
  have hk := hok
  simp only [rcOk, Bool.and_eq_true] at hk
  obtain ⟨⟨⟨k1, k2⟩, k3⟩, _⟩ := hk
  have f5 := inAll_mem k3 (x := (r.share.length : Int)) (by simp)
  refine ⟨k1, inAll_mem k2 (x := r.attempt) (by simp), inAll_mem k2 (x := r.epoch) (by simp), inAll_mem k2 (x := r.mark) (by simp), inAll_mem k3 (x := r.size) (by simp), by omega, ?_⟩
  have h := hok
  simp only [rcOk, Bool.and_eq_true, rcKind] at h
  have h := h.2
  split at h
  · omega
  · split at h
    · omega
    · split at h
      · omega
      · split at h
        · omega
        · cases h
theorem num_at {s : PSt} {k : Nat} {n : Int} {r : List UInt8} (h : s = (nb k n ++ r, false)) (hk : wid k = k) (h0 : 0 ≤ n) (h1 : n < 256 ^ k) : ((pNum k s).1 : Int) = n ∧ (pNum k s).2 = (r, false) := by
  rw [h, pNum_nb hk h0 h1]
  exact ⟨Int.toNat_of_nonneg h0, rfl⟩
theorem head_parse {r : Rc} {p : List UInt8} (hok : rcOk r = true) (hp : headR r <+: p) {a1 a2 a3 a4 a5 a6 : Nat × PSt} {q : List UInt8 × PSt} (h1 : a1 = pNum 1 (p.drop 1, false)) (hq : q = pRaw 16 (pNum 1 a1.2).2) (h2 : a2 = pNum 4 q.2) (h3 : a3 = pNum 4 a2.2) (h4 : a4 = pNum 4 a3.2) (h5 : a5 = pNum 2 a4.2) (h6 : a6 = pNum 1 a5.2) :
    (a1.1 : Int) = r.kind ∧ (∃ t, a1.2 = (nameB r.name ++ t, false)) ∧ (a2.1 : Int) = r.attempt ∧ (a3.1 : Int) = r.epoch ∧ (a4.1 : Int) = r.mark ∧ (a5.1 : Int) = r.size ∧ a6.1 = r.share.length := by
  obtain ⟨k1, f1, f2, f3, f4, f5, f6⟩ := rcOk_bounds hok
  obtain ⟨t, ht⟩ := hp
  have hd : p.drop 1 = nb 1 r.kind ++ (nameB r.name ++ (nb 4 r.attempt ++ (nb 4 r.epoch ++ (nb 4 r.mark ++ (nb 2 r.size ++ (nb 1 (r.share.length : Int) ++ t)))))) := by
    rw [← ht, headR]
    simp only [List.append_assoc]
    have : (nb 1 72).length = 1 := by rw [nb_length]; rfl
    exact List.drop_left' this
  obtain ⟨e1, s1⟩ := num_at (k := 1) (s := (p.drop 1, false)) (n := r.kind) (by rw [hd]; rfl) (by decide) (by omega) (show r.kind < 256 ^ 1 by omega)
  rw [← h1] at e1 s1
  have hn := (name_parse k1 s1).2
  rw [← hq] at hn
  have sq : q.2 = (nb 4 r.attempt ++ (nb 4 r.epoch ++ (nb 4 r.mark ++ (nb 2 r.size ++ (nb 1 (r.share.length : Int) ++ t)))), false) := by rw [hn]
  obtain ⟨e2, s2⟩ := num_at (k := 4) sq (by decide) f1.1 (show r.attempt < 256 ^ 4 by omega)
  rw [← h2] at e2 s2
  obtain ⟨e3, s3⟩ := num_at (k := 4) s2 (by decide) f2.1 (show r.epoch < 256 ^ 4 by omega)
  rw [← h3] at e3 s3
  obtain ⟨e4, s4⟩ := num_at (k := 4) s3 (by decide) f3.1 (show r.mark < 256 ^ 4 by omega)
  rw [← h4] at e4 s4
  obtain ⟨e5, s5⟩ := num_at (k := 2) s4 (by decide) f4.1 (show r.size < 256 ^ 2 by omega)
  rw [← h5] at e5 s5
  obtain ⟨e6, s6⟩ := num_at (k := 1) s5 (by decide) (by omega) (show (r.share.length : Int) < 256 ^ 1 by omega)
  rw [← h6] at e6
  exact ⟨e1, ⟨_, s1⟩, e2, e3, e4, e5, by omega⟩
set_option maxHeartbeats 4000000
theorem first_spec {w : World} {R : Snap} {L : Asrt} {v : Value} {p : List UInt8} (H : Holds w R L) (hr : RdB R.cell? v p) (hp60 : p.length = 60) :
    Calls Try.prog 158 #[v] w fun e w' => ∃ (M : Rc) (lg : Nat), e = .returned (.tuple #[.agg M.cells.toArray, .int .i64 (lg : Nat)]) ∧ M.vs = .slice none 0 0 ∧ M.share = [] ∧ M.name.size ≤ 16 ∧ lg < 256 ∧ (∀ r : Rc, rcOk r = true → headR r <+: p → M.kind = r.kind ∧ M.name = r.name ∧ M.attempt = r.attempt ∧ M.epoch = r.epoch ∧ M.mark = r.mark ∧ M.size = r.size ∧ lg = r.share.length) ∧ Holds w' R L := by
  obtain ⟨a0, c0, rfl⟩ := hr.form
  have hB := hr.bounds
  have hr0 := RdB.sub hr 1 60 c0 (by decide) (by omega) (by omega) (Nat.le_refl _)
  rw [List.take_of_length_le (by rw [List.length_drop]; omega)] at hr0
  have hlen : (p.drop 1).length ≤ 1000000 := by rw [List.length_drop]; omega
  have hc60 : 60 ≤ c0 := by omega
  have H1 := H.alloc zeroRec tRec
  have HP := Hid.mk' hp60
  simp only [hp60]
  clear hr hB H hp60
  go_enter Try.func158, Try.ntmps158
  go_wp2_with fail
  generalize (World.alloc ..) = w1 at H1 ⊢
  generalize w.heap.size = z at H1 ⊢
  refine (read_spec H1 hr0).mono ?_
  rintro e w2 ⟨p3, rfl, H2⟩
  clear H1
  have H7 := (H2.alloc zeroRec tRec).swap
  go_wp2_with fail
  generalize (World.alloc ..) = w7 at H7 ⊢
  generalize w2.heap.size = g9 at H7 ⊢
  clear H2
  have hr1 := hr0
  have hl1 := hlen
  clear hr0 hlen
  refine (rd_num (s := (p.drop 1, false)) (k := 1) (by decide) H7 hr1).mono ?_
  rintro e w8 ⟨v2, rfl, H8, hr2⟩
  have hl2 := Nat.le_trans (pNum_le 1 (p.drop 1, false)) hl1
  obtain ⟨a1, ha⟩ : ∃ a, a = pNum 1 (p.drop 1, false) := ⟨_, rfl⟩
  rw [← ha] at H8 hr2 hl2 ⊢
  have A1 := Hid.mk' ha
  clear ha H7 hr1 hl1
  obtain ⟨l8, n8, c8, z8⟩ := Holds.facts (H8.swap)
  go_upto_region 4 with fail
  have H9 := (H8.swap.set 0 (.int .i64 ((a1.1 : Nat) : Int))).swap
  replace H9 : Holds _ R (star (blk p3 #[v2, .bool a1.2.2] rdrT) (star (blk g9 #[.int .i64 ((a1.1 : Nat) : Int), .string ⟨#[]⟩, .int .i64 0, .int .i64 0, .int .i64 0, .int .i64 0, .slice none 0 0] tRec) (star (blk z zeroRec tRec) L))) := H9
  clear H8 l8 n8 c8 z8
  generalize (World.setCell ..) = w9 at H9 ⊢
  have H7 := H9
  have hr1 := hr2
  have hl1 := hl2
  clear H9 hr2 hl2
  go_wp2_with fail
  refine (lget_spec (s := a1.2) H7 hr1 hl1).mono ?_
  rintro e w8 ⟨nm, ob, v2, rfl, H8, hr2, hns, hnc⟩
  obtain ⟨q, hq⟩ : ∃ q, q = pRaw 16 (pNum 1 a1.2).2 := ⟨_, rfl⟩
  rw [← hq] at H8 hr2
  have hl2 : q.2.1.length ≤ 1000000 := by
    rw [hq]
    exact Nat.le_trans (cutRest_le _ _ _) (Nat.le_trans (pNum_le 1 a1.2) hl1)
  have HQ := Hid.mk' hq
  have HNC := Hid.mk' hnc
  clear hq hnc H7 hr1 hl1
  obtain ⟨l8, n8, c8, z8⟩ := Holds.facts (H8.swap)
  go_upto_region 5 with fail
  have H9 := (H8.swap.set 1 (.string nm)).swap
  replace H9 : Holds _ R (star (blk p3 #[v2, .bool q.2.2] rdrT) (star (blk g9 #[.int .i64 ((a1.1 : Nat) : Int), .string nm, .int .i64 0, .int .i64 0, .int .i64 0, .int .i64 0, .slice none 0 0] tRec) (star (blk z zeroRec tRec) L))) := H9
  clear H8 l8 n8 c8 z8
  generalize (World.setCell ..) = w9 at H9 ⊢
  have H7 := H9
  have hr1 := hr2
  have hl1 := hl2
  clear H9 hr2 hl2
  go_wp2_with fail
  refine (rd_num (s := q.2) (k := 4) (by decide) H7 hr1).mono ?_
  rintro e w8 ⟨v2, rfl, H8, hr2⟩
  have hl2 := Nat.le_trans (pNum_le 4 q.2) hl1
  obtain ⟨a2, ha⟩ : ∃ a, a = pNum 4 q.2 := ⟨_, rfl⟩
  rw [← ha] at H8 hr2 hl2 ⊢
  have A2 := Hid.mk' ha
  clear ha H7 hr1 hl1
  obtain ⟨l8, n8, c8, z8⟩ := Holds.facts (H8.swap)
  go_upto_region 6 with fail
  have H9 := (H8.swap.set 2 (.int .i64 ((a2.1 : Nat) : Int))).swap
  replace H9 : Holds _ R (star (blk p3 #[v2, .bool a2.2.2] rdrT) (star (blk g9 #[.int .i64 ((a1.1 : Nat) : Int), .string nm, .int .i64 ((a2.1 : Nat) : Int), .int .i64 0, .int .i64 0, .int .i64 0, .slice none 0 0] tRec) (star (blk z zeroRec tRec) L))) := H9
  clear H8 l8 n8 c8 z8
  generalize (World.setCell ..) = w9 at H9 ⊢
  have H7 := H9
  have hr1 := hr2
  have hl1 := hl2
  clear H9 hr2 hl2
  go_wp2_with fail
  refine (rd_num (s := a2.2) (k := 4) (by decide) H7 hr1).mono ?_
  rintro e w8 ⟨v2, rfl, H8, hr2⟩
  have hl2 := Nat.le_trans (pNum_le 4 a2.2) hl1
  obtain ⟨a3, ha⟩ : ∃ a, a = pNum 4 a2.2 := ⟨_, rfl⟩
  rw [← ha] at H8 hr2 hl2 ⊢
  have A3 := Hid.mk' ha
  clear ha H7 hr1 hl1
  obtain ⟨l8, n8, c8, z8⟩ := Holds.facts (H8.swap)
  go_upto_region 7 with fail
  have H9 := (H8.swap.set 3 (.int .i64 ((a3.1 : Nat) : Int))).swap
  replace H9 : Holds _ R (star (blk p3 #[v2, .bool a3.2.2] rdrT) (star (blk g9 #[.int .i64 ((a1.1 : Nat) : Int), .string nm, .int .i64 ((a2.1 : Nat) : Int), .int .i64 ((a3.1 : Nat) : Int), .int .i64 0, .int .i64 0, .slice none 0 0] tRec) (star (blk z zeroRec tRec) L))) := H9
  clear H8 l8 n8 c8 z8
  generalize (World.setCell ..) = w9 at H9 ⊢
  have H7 := H9
  have hr1 := hr2
  have hl1 := hl2
  clear H9 hr2 hl2
  go_wp2_with fail
  refine (rd_num (s := a3.2) (k := 4) (by decide) H7 hr1).mono ?_
  rintro e w8 ⟨v2, rfl, H8, hr2⟩
  have hl2 := Nat.le_trans (pNum_le 4 a3.2) hl1
  obtain ⟨a4, ha⟩ : ∃ a, a = pNum 4 a3.2 := ⟨_, rfl⟩
  rw [← ha] at H8 hr2 hl2 ⊢
  have A4 := Hid.mk' ha
  clear ha H7 hr1 hl1
  obtain ⟨l8, n8, c8, z8⟩ := Holds.facts (H8.swap)
  go_upto_region 8 with fail
  have H9 := (H8.swap.set 4 (.int .i64 ((a4.1 : Nat) : Int))).swap
  replace H9 : Holds _ R (star (blk p3 #[v2, .bool a4.2.2] rdrT) (star (blk g9 #[.int .i64 ((a1.1 : Nat) : Int), .string nm, .int .i64 ((a2.1 : Nat) : Int), .int .i64 ((a3.1 : Nat) : Int), .int .i64 ((a4.1 : Nat) : Int), .int .i64 0, .slice none 0 0] tRec) (star (blk z zeroRec tRec) L))) := H9
  clear H8 l8 n8 c8 z8
  generalize (World.setCell ..) = w9 at H9 ⊢
  have H7 := H9
  have hr1 := hr2
  have hl1 := hl2
  clear H9 hr2 hl2
  go_wp2_with fail
  refine (rd_num (s := a4.2) (k := 2) (by decide) H7 hr1).mono ?_
  rintro e w8 ⟨v2, rfl, H8, hr2⟩
  have hl2 := Nat.le_trans (pNum_le 2 a4.2) hl1
  obtain ⟨a5, ha⟩ : ∃ a, a = pNum 2 a4.2 := ⟨_, rfl⟩
  rw [← ha] at H8 hr2 hl2 ⊢
  have A5 := Hid.mk' ha
  clear ha H7 hr1 hl1
  obtain ⟨l8, n8, c8, z8⟩ := Holds.facts (H8.swap)
  go_upto_region 9 with fail
  have H9 := (H8.swap.set 5 (.int .i64 ((a5.1 : Nat) : Int))).swap
  replace H9 : Holds _ R (star (blk p3 #[v2, .bool a5.2.2] rdrT) (star (blk g9 #[.int .i64 ((a1.1 : Nat) : Int), .string nm, .int .i64 ((a2.1 : Nat) : Int), .int .i64 ((a3.1 : Nat) : Int), .int .i64 ((a4.1 : Nat) : Int), .int .i64 ((a5.1 : Nat) : Int), .slice none 0 0] tRec) (star (blk z zeroRec tRec) L))) := H9
  clear H8 l8 n8 c8 z8
  generalize (World.setCell ..) = w9 at H9 ⊢
  have H7 := H9
  have hr1 := hr2
  have hl1 := hl2
  clear H9 hr2 hl2
  go_wp2_with fail
  obtain ⟨l8, n8, c8, z8⟩ := Holds.facts (H7.swap)
  obtain ⟨l9, n9, c9, z9⟩ := Holds.facts (H7.pick3)
  obtain ⟨s1, s2⟩ := Holds.apart H7.drop
  have hlt := pNum1_lt a5.2
  have HLT := Hid.mk' hlt
  clear hlt
  go_region_law ((go_simp; go_at_call 127; refine (rd_num (s := a5.2) (k := 1) (by decide) H7.drew hr1).mono ?_; rintro e w10 ⟨v10, rfl, H10, hr10⟩; obtain ⟨l6, n6, c6, z6⟩ := Holds.facts H10.swap; obtain ⟨l7, n7, c7, z7⟩ := Holds.facts H10.pick3))
  all_goals
    clear l8 n8 c8 z8 l9 n9 c9 z9
    go_wp2_with fail
    have H13 := H10.pick3.blkFull [.int .i64 ((a1.1 : Nat) : Int), .string nm, .int .i64 ((a2.1 : Nat) : Int), .int .i64 ((a3.1 : Nat) : Int), .int .i64 ((a4.1 : Nat) : Int), .int .i64 ((a5.1 : Nat) : Int), .slice none 0 0] rfl
    clear l6 n6 c6 z6 l7 n7 c7 z7 H10
    generalize hw9 : World.setCell .. = w13
    replace H13 := Holds.at hw9 H13
    clear hw9
    refine bodyPost_ret (results_cell2 rfl _ _ z tRec _ (0, 0) _ rfl H13.blkAt Try.underlying108 rfl (by kernel_rfl)) rfl ?_
    refine ⟨(⟨((a1.1 : Nat) : Int), nm, ((a2.1 : Nat) : Int), ((a3.1 : Nat) : Int), ((a4.1 : Nat) : Int), ((a5.1 : Nat) : Int), .slice none 0 0, []⟩ : Rc), (pNum 1 a5.2).1, rfl, rfl, rfl, hns, HLT.out, fun r h1 h2 => ?_, H13.drop.drop.drop⟩
    obtain ⟨e1, ⟨t, e2⟩, e3, e4, e5, e6, e7⟩ := head_parse h1 h2 A1.out HQ.out A2.out A3.out A4.out A5.out rfl
    exact ⟨e1, HNC.out _ _ (rcOk_bounds h1).1 e2, e3, e4, e5, e6, e7⟩
end Sh
/- record.share. -/
set_option linter.unusedVariables false
set_option linter.unusedSimpArgs false
namespace Sh
open Go Go.RowKit Go.Proofs
attribute [local go_sem ↓] Go.wp_at_zero Go.wp_at_succ
set_option maxHeartbeats 1000000
set_option maxRecDepth 100000

def textP (b : List UInt8) : List UInt8 := (pText ((openP b).drop 11, false)).1
def shareG (bs : List (List UInt8)) : List UInt8 := if bs.all openOk = true then bs.flatMap textP else []
theorem textP_len (b : List UInt8) : (textP b).length ≤ 255 := by
  have h1 : (textP b).length ≤ (pNum 1 ((openP b).drop 11, false)).1 := by
    show (cutOut _ _ _).length ≤ _
    unfold cutOut; split
    · rw [List.length_take]; omega
    · simp
  have := pNum1_lt ((openP b).drop 11, false)
  omega
theorem flatT_len (bs : List (List UInt8)) : (bs.flatMap textP).length ≤ 255 * bs.length := by
  induction bs with
  | nil => simp
  | cons b bs ih => rw [List.flatMap_cons, List.length_append, List.length_cons]; have := textP_len b; omega
theorem openOk_len {b : List UInt8} (h : openOk b = true) : (openP b).length = 60 := by
  unfold openP
  rw [if_pos h]
  unfold openOk at h
  simp only [Bool.and_eq_true, decide_eq_true_eq] at h
  rw [List.length_take, h.1]; rfl
theorem share_spec {w : World} {R : Snap} {L : Asrt} {pt : Nat} {v : Value} {ss : List (Value × List UInt8)} (H : Holds w R L) (hT : R.blk pt = some (.cells (rowC 256) tabT (0, 0))) (hr : RdBB R.cell? v ss) (hn : ss.length ≤ 1000) :
    Calls Try.prog 159 #[.pointer (some ⟨pt, 0, none⟩), v] w fun e w' => ∃ o, e = .returned o ∧ Holds w' R (star (rowB o (shareG (ss.map Prod.snd))) L) := by
  obtain ⟨a, c, rfl⟩ := hr.form
  obtain ⟨n, hnn⟩ : ∃ n, n = ss.length := ⟨_, rfl⟩
  obtain ⟨bs, hbs⟩ : ∃ bs, bs = ss.map Prod.snd := ⟨_, rfl⟩
  rw [← hbs]
  have HR := Hid.mk' hr
  have HN := Hid.mk' hnn
  have hbl : bs.length = n := by rw [hbs, List.length_map, hnn]
  have HBL := Hid.mk' hbl
  have HBS := Hid.mk' hbs
  rw [← hnn] at hn ⊢
  clear hr hnn hbl hbs
  go_enter Try.func159, Try.ntmps159
  go_wp2_with fail
  go_loopw [5, 12] (fun o i wx => ∃ j : Nat, i = .int .i64 j ∧ j ≤ n ∧ Hid (∀ k (h : k < bs.length), k < j → openOk bs[k] = true) ∧ Holds wx R (star (rowB o ((bs.take j).flatMap textP)) L)) (fun _ i _ => n - (intOf i).toNat)
  case atStart => exact ⟨0, rfl, Nat.zero_le _, Hid.mk' (fun k _ h => absurd h (Nat.not_lt_zero k)), H.nilRow _ 1⟩
  case round =>
    obtain ⟨j, rfl, hj, hA, H3⟩ := hrel
    clear H
    by_cases hlt : j < n
    · have d1 : decide ((j : Int) < (n : Int)) = true := by simp; omega
      have hjl : j < ss.length := by rw [← HN.out]; exact hlt
      obtain ⟨b1, o1, ha, hc, hq⟩ := RdBB.at HR.out hjl
      subst ha
      have hc := H3.cell hc
      have hjb : j < bs.length := by rw [HBL.out]; exact hlt
      have hy0 : bs[j] = ss[j].2 := by simp [HBS.out]
      obtain ⟨y, hy⟩ : ∃ y, y = bs[j] := ⟨_, rfl⟩
      rw [← hy0, ← hy] at hq
      have HY := Hid.mk' hy
      obtain ⟨vj, hvj⟩ : ∃ vj, vj = ss[j].1 := ⟨_, rfl⟩
      rw [← hvj] at hc hq
      obtain ⟨aj, cj, rfl⟩ := hq.form
      have HQ := Hid.mk' hq
      have i1 : (0 : Int) ≤ (j : Int) := by omega
      have i2 : (j : Int) < (n : Int) := by omega
      clear hy0 hy hvj hq
      go_wp2_with fail
      refine (sopen_spec H3 hT HQ.out).mono ?_
      rintro e w4 ⟨o4, rfl, H4⟩
      cases hok : openOk y with
      | false =>
        have HOK := Hid.mk' hok
        clear hok H3
        go_wp2_with fail
        go_ret
        have hz : shareG bs = [] := by
          unfold shareG
          rw [if_neg]
          intro h
          have := List.all_eq_true.1 h _ (List.getElem_mem hjb)
          rw [← HY.out, HOK.out] at this
          cases this
        rw [hz]
        exact ⟨_, rfl, H4.drop2.drop.nilRow _ 1⟩
      | true =>
        have HOK := Hid.mk' hok
        obtain ⟨R5, le5, H5, hr5⟩ := H4.freezeRow
        obtain ⟨pl, hpl⟩ : ∃ pl, pl = openP y := ⟨_, rfl⟩
        have hl60 := openOk_len hok
        rw [← hpl] at hl60
        replace hr5 : RdB R5.cell? o4 pl := by rw [hpl]; exact hr5
        obtain ⟨a4, c4, rfl⟩ := hr5.form
        have hB1 : 60 ≤ c4 := by have := hr5.bounds; omega
        have hsub := RdB.sub hr5 11 60 c4 (by decide) (by omega) (by omega) (Nat.le_refl _)
        rw [List.take_of_length_le (by rw [List.length_drop]; omega)] at hsub
        have htx : (pText (pl.drop 11, false)).1 = textP y := by rw [hpl]; rfl
        have hdl : (pl.drop 11).length ≤ 1000000 := by rw [List.length_drop]; omega
        have hln : (List.flatMap textP (bs.take j)).length ≤ 255000 := by
          have h1 := flatT_len (bs.take j)
          have h2 : (bs.take j).length ≤ 1000 := by rw [List.length_take]; omega
          omega
        have HTX := Hid.mk' htx
        have hty := textP_len y
        have HPL := Hid.mk' hpl
        simp only [hl60]
        clear H3 H4 hok htx hpl hr5 hl60
        go_wp2_with fail
        refine (read_spec H5 hsub).mono ?_
        rintro e w6 ⟨p6, rfl, H6⟩
        go_wp2_with fail
        refine (rd_text (s := (pl.drop 11, false)) H6 hsub hdl).mono ?_
        rintro e w7 ⟨o7, v7, rfl, H7, hr7⟩
        rw [HTX.out] at H7
        obtain ⟨a7, c7, rfl⟩ := H7.rowRd.form
        have hrd : RdB w7.cell? (.slice a7 (textP y).length c7) (textP y) := H7.rowRd
        have H8 := H7.drop2.swap
        clear H5 H6 hsub hr7 hdl
        go_wp2_with (with_reducible refine stop_append ?_)
        refine Hold.go (wpList_appendB (l := List.flatMap textP (bs.take j)) (k := textP y) rfl _ _ rfl rfl rfl H8 hrd (by omega) ?_)
        intro v9 w9 H9
        go_wp2_with fail
        go_roundw
        case rel =>
          refine ⟨j + 1, by go_num, hlt, Hid.mk' (fun k h1 h2 => ?_), ?_⟩
          · rcases Nat.lt_or_ge k j with h3 | h3
            · exact hA.out k h1 h3
            · obtain rfl : k = j := by omega
              rw [← HY.out]; exact HOK.out
          · rw [List.take_succ_eq_append_getElem hjb, List.flatMap_append, ← HY.out]
            simp only [List.flatMap_cons, List.flatMap_nil, List.append_nil]
            exact (H9.drop2).weaken le5
        case measure => simp [intOf]; omega
    · have d1 : decide ((j : Int) < (n : Int)) = false := by simp; omega
      have hz : shareG bs = (bs.take j).flatMap textP := by
        unfold shareG
        rw [if_pos, List.take_of_length_le (by rw [HBL.out]; omega)]
        rw [List.all_eq_true]
        intro x hx
        obtain ⟨k, hk, rfl⟩ := List.getElem_of_mem hx
        exact hA.out k hk (by have := HBL.out; omega)
      have HZ := Hid.mk' hz
      clear hz
      go_wp2_with fail
      go_ret
      rw [HZ.out]
      exact ⟨_, rfl, H3⟩
end Sh
/- sherdref15's contracts: Seal, Open, Clear. -/
set_option linter.unusedVariables false
set_option linter.unusedSimpArgs false
namespace Sh
open Go Go.RowKit Go.Proofs
attribute [local go_sem ↓] Go.wp_at_zero Go.wp_at_succ
set_option maxHeartbeats 1000000
set_option maxRecDepth 100000

theorem rsseal_spec {w : World} {R : Snap} {L : Asrt} {v : Value} {p : List UInt8} (H : Holds w R L) (hr : RdB R.cell? v p) (h60 : p.length ≤ 60) :
    Calls Try.prog 150 #[v] w fun e w' => ∃ o, e = .returned o ∧ Holds w' R (star (rowB o (sealS p)) L) := by
  have hr0 := hr
  obtain ⟨a, c, rfl⟩ := hr.form
  have e1 : sealS p = sealB (p ++ List.replicate (60 - p.length) 0) := by rw [sealS, if_pos h60, padTo60, List.take_of_length_le h60, List.drop_replicate]
  rw [e1]
  clear e1
  go_enter Try.func150, Try.ntmps150
  go_wp2_with (with_reducible refine stop_append ?_)
  refine Hold.go (wpList_appendB rfl _ _ rfl rfl rfl (freshB H) (hr0.world (H.garbage _)) (by simp only [List.length_nil]; omega) ?_)
  intro v1 w1 H1
  rw [List.nil_append] at H1
  go_wp2_with fail
  go_loopw [3] (fun o wx => ∃ j : Nat, j ≤ 60 - p.length ∧ o = .slice (match o with | .slice a _ _ => a | _ => none) (p.length + j) (match o with | .slice _ _ c => c | _ => 0) ∧ Holds wx R (star (rowB o (p ++ List.replicate j 0)) L)) (fun o _ => 60 - (match o with | .slice _ n _ => n | _ => 0))
  case atStart =>
    obtain ⟨a1, c1, rfl⟩ := H1.rowRd.form
    exact ⟨0, Nat.zero_le _, rfl, by simpa using H1⟩
  case round =>
    clear H1
    obtain ⟨j, hj, hu, H2⟩ := hrel
    obtain ⟨a2, c2, rfl⟩ := H2.rowRd.form
    clear hu
    have hpl : (p ++ List.replicate j 0).length = p.length + j := by simp
    rw [hpl] at H2 ⊢
    have HP := Hid.mk' hpl
    clear hpl
    by_cases hlt : p.length + j < 60
    · go_wp2_with (with_reducible refine stop_append ?_)
      refine Hold.go (wpList_appendB rfl _ _ rfl rfl rfl (H2.garbage _) (blkRdB (H2.alloc _ _) [0] rfl rfl (Nat.le_of_ble_eq_true rfl)) (by rw [HP.out, List.length_singleton]; omega) ?_)
      intro v3 w3 H3
      rw [List.append_assoc, ← List.replicate_succ'] at H3
      obtain ⟨a3, c3, rfl⟩ := H3.rowRd.form
      rw [show (p ++ List.replicate (j + 1) (0 : UInt8)).length = p.length + (j + 1) by simp] at H3 ⊢
      go_wp2_with fail
      go_roundw
      case rel => exact ⟨j + 1, by omega, rfl, H3⟩
      case measure => simp; omega
    · have e2 : j = 60 - p.length := by omega
      subst e2
      obtain ⟨R3, le3, H3, hr3⟩ := H2.freezeRow
      clear H2
      have hr4 : RdB R3.cell? (.slice a2 60 c2) (p ++ List.replicate (60 - p.length) 0) := by
        have h := hr3
        rw [show (Value.slice a2 (p.length + (60 - p.length)) c2) = .slice a2 60 c2 from by rw [show p.length + (60 - p.length) = 60 by omega]] at h
        exact h
      go_wp2_with fail
      refine (cseal_ref H3 hr4 (by rw [HP.out]; omega)).mono ?_
      rintro e w4 ⟨o4, rfl, H4⟩
      go_wp2_with fail
      go_ret
      exact ⟨_, rfl, H4.weaken le3⟩
theorem rsopen_spec {w : World} {R : Snap} {L : Asrt} {v : Value} {b : List UInt8} (H : Holds w R L) (hr : RdB R.cell? v b) :
    Calls Try.prog 151 #[v] w fun e w' => ∃ o, e = .returned (.tuple #[o, .bool (openOk b)]) ∧ Holds w' R (star (rowB o (openP b)) L) := by
  have hr0 := hr
  obtain ⟨a, c, rfl⟩ := hr.form
  by_cases h64 : b.length = 64
  · have t1 : ((b.length : Int) != 64) = false := by simp [h64]
    have e0 : openOk b = goodB b := by simp [openOk, h64]
    have e1 : openP b = if goodB b = true then b.take 60 else [] := by rw [openP, e0]
    rw [e0, e1]
    have hb : b.length ≤ 1000000 := by omega
    have hB := hr0.bounds
    have i1 : (60 : Int) ≤ c := by omega
    have hpre := RdB.pre hr0 60 (by omega)
    have hp6 : (b.take 60).length ≤ 60 := by simp; omega
    clear e0 e1 h64 hB
    have hgood := cgood_ref H hr0 hb
    cases hg : goodB b with
    | true =>
      rw [hg] at hgood
      rw [if_pos rfl]
      clear hg
      go_enter Try.func151, Try.ntmps151
      go_wp2_with (with_reducible refine stop_append ?_)
      refine hgood.mono ?_
      rintro e w1 ⟨rfl, H1⟩
      go_wp2_with (with_reducible refine stop_append ?_)
      refine Hold.go (wpList_appendB rfl _ _ rfl rfl rfl (freshB H1) (hpre.world (H1.garbage _)) (by simp only [List.length_nil]; omega) ?_)
      intro v2 w2 H2
      go_wp2_with fail
      go_ret2
      exact ⟨_, rfl, H2⟩
    | false =>
      rw [hg] at hgood
      rw [if_neg (by decide)]
      clear hg
      go_enter Try.func151, Try.ntmps151
      go_wp2_with fail
      refine hgood.mono ?_
      rintro e w1 ⟨rfl, H1⟩
      go_wp2_with fail
      go_ret2
      exact ⟨_, rfl, H1.nilRow _ 1⟩
  · have t1 : ((b.length : Int) != 64) = true := by rw [bne_iff_ne]; omega
    have e0 : openOk b = false := by simp [openOk, h64]
    have e1 : openP b = [] := by simp [openP, e0]
    rw [e0, e1]
    clear e0 e1
    go_enter Try.func151, Try.ntmps151
    go_wp2_with fail
    go_ret2
    exact ⟨_, rfl, H.nilRow _ 1⟩
theorem rsclear_spec {w : World} {v : Value} {b : List UInt8} (hr : RdB w.cell? v b) :
    Calls Try.prog 173 #[v] w fun e w' => e = .returned (.bool (clearB b)) ∧ w = w' := by
  have hr0 := hr
  obtain ⟨a, c, rfl⟩ := hr.form
  have hm := hr0.max
  unfold maxLen at hm
  go_enter Try.func173, Try.ntmps173
  go_wp2_with fail
  go_loop [3] (fun i => ∃ j : Nat, i = .int .i64 j ∧ j ≤ b.length ∧ Hid (b.take j = List.replicate j 0)) (fun i => b.length - (intOf i).toNat)
  case atStart => exact ⟨0, rfl, Nat.zero_le _, rfl⟩
  case round =>
    obtain ⟨j, rfl, hj, hz⟩ := hrel
    by_cases hlt : j < b.length
    · obtain ⟨b1, o1, rfl, hc⟩ := RdB.open hr0 (by omega)
      have cj := hc j hlt
      have hs : Hid (b.take (j + 1) = b.take j ++ [b[j]]) := Hid.mk' (List.take_succ_eq_append_getElem hlt)
      have hne : Hid (b[j] ≠ 0 → clearB b = false) := Hid.mk' (fun h => by
        rw [clearB, decide_eq_false_iff_not]
        intro h2; exact h (List.eq_of_mem_replicate (by rw [← h2]; exact List.getElem_mem hlt)))
      generalize b[j] = x at cj hs hne
      clear hc
      by_cases hx : x = 0
      · subst hx
        have cj0 : w.cell? ⟨b1, o1 + j, none⟩ = some (.int .u8 0) := cj
        clear cj
        go_wp2_with fail
        go_round
        case rel => exact ⟨j + 1, by go_num, hlt, Hid.mk' (by rw [hs.out, hz.out, ← List.replicate_succ'])⟩
        case measure => simp [intOf]; omega
      · have t1 : ((x.toNat : Int) != 0) = true := by rw [bne_iff_ne]; intro h; exact hx (UInt8.toNat_inj.1 (by simpa using h))
        go_wp2_with fail
        go_ret
        exact ⟨ret_bool (hne.out hx).symm, rfl⟩
    · go_wp2_with fail
      go_ret
      refine ⟨ret_bool ?_, rfl⟩
      have h1 := hz.out
      rw [show j = b.length by omega, List.take_length] at h1
      rw [clearB, Bool.eq_iff_iff, decide_eq_true_eq, beq_iff_eq]
      constructor
      · intro h2; rw [h1, show b.length = 64 by omega]
      · intro h2; have := congrArg List.length h2; simp at this; omega
end Sh
/- A sealed sector: the plain law. -/
set_option linter.unusedVariables false
set_option linter.unusedSimpArgs false
namespace Sh
open Go Go.RowKit Go.Proofs
attribute [local go_sem ↓] Go.wp_at_zero Go.wp_at_succ
set_option maxHeartbeats 1000000
set_option maxRecDepth 100000

theorem good_zero : goodB (List.replicate 64 0) = false := by decide +kernel
theorem seal_clear {p : List UInt8} (h : p.length ≤ 60) : clearB (sealS p) = false := by
  rw [clearB, decide_eq_false_iff_not]
  intro h2
  have h3 : goodB (sealS p) = true := by rw [sealS, if_pos h]; exact goodB_seal _
  rw [h2, good_zero] at h3
  cases h3
theorem open_seal {p : List UInt8} (h : p.length ≤ 60) : openOk (sealS p) = true ∧ openP (sealS p) = padTo60 p := by
  have h1 : openOk (sealS p) = true := by
    rw [openOk, sealS_len h, sealS, if_pos h, goodB_seal]; rfl
  refine ⟨h1, ?_⟩
  rw [openP, if_pos h1, sealS, if_pos h, sealB, List.take_append_of_le_length (by rw [padTo60_len h]; decide), List.take_of_length_le (by rw [padTo60_len h]; decide)]
theorem pad_take {p : List UInt8} (h : p.length ≤ 60) : (padTo60 p).take p.length = p := by
  rw [padTo60, List.take_of_length_le h, List.take_append_of_le_length (Nat.le_refl _), List.take_length]
end Sh
/- Records' sectors: the plain law: what is put is read back. -/
set_option linter.unusedVariables false
set_option linter.unusedSimpArgs false
namespace Sh
open Go Go.RowKit Go.Proofs
attribute [local go_sem ↓] Go.wp_at_zero Go.wp_at_succ
set_option maxHeartbeats 1000000
set_option maxRecDepth 100000

theorem headR_len {r : Rc} (h : rcOk r = true) : (headR r).length = 34 := by
  have := nameB_len (rcOk_bounds h).1
  simp [headR, nb_length, wid_1, wid_2, wid_4, this]
theorem pieceL_len (r : Rc) (i : Nat) : (pieceL r i).length ≤ 48 := by
  unfold pieceL; rw [List.length_take]; omega
theorem bodyR_len (r : Rc) (i : Nat) : (bodyR r i).length ≤ 60 := by
  have := pieceL_len r i
  simp only [bodyR, tx, List.length_append, nb_length, wid_1, wid_4, List.length_take]
  omega
theorem head_open {r : Rc} (h : rcOk r = true) : openOk (sealS (headR r)) = true ∧ headR r <+: openP (sealS (headR r)) := by
  have hl : (headR r).length ≤ 60 := by rw [headR_len h]; omega
  obtain ⟨o1, o2⟩ := open_seal hl
  refine ⟨o1, ?_⟩
  rw [o2, padTo60, List.take_of_length_le hl]
  exact ⟨_, rfl⟩
theorem body_open {r : Rc} (h : rcOk r = true) (i : Nat) : openOk (sealS (bodyR r i)) = true ∧ textP (sealS (bodyR r i)) = pieceL r i := by
  obtain ⟨k1, f1, f2, f3, f4, f5, f6⟩ := rcOk_bounds h
  have hl := bodyR_len r i
  obtain ⟨o1, o2⟩ := open_seal hl
  refine ⟨o1, ?_⟩
  unfold textP
  rw [o2, padTo60, List.take_of_length_le hl]
  have e : bodyR r i = (nb 1 66 ++ (nb 1 (i : Int) ++ (nb 1 r.kind ++ (nb 4 r.attempt ++ nb 4 r.epoch)))) ++ tx (pieceL r i) := by
    simp only [bodyR, List.append_assoc]
  rw [e, List.append_assoc, List.drop_left' (by simp [nb_length, wid_1, wid_4])]
  rw [pText_tx (by have := pieceL_len r i; omega)]
theorem pieces_all (r : Rc) : ∀ n, (List.range n).flatMap (pieceL r) = r.share.take (n * 48)
  | 0 => by simp
  | n + 1 => by
    rw [List.range_succ, List.flatMap_append, pieces_all r n, List.flatMap_cons, List.flatMap_nil, List.append_nil, pieceL, Nat.add_mul, Nat.one_mul]
    exact (List.take_add ..).symm
theorem share_put {r : Rc} (h : rcOk r = true) : shareG ((List.range (bodiesN r.share.length)).map fun i => sealS (bodyR r i)) = r.share := by
  unfold shareG
  rw [if_pos]
  · rw [List.flatMap_map]
    have e : (List.range (bodiesN r.share.length)).flatMap (fun i => textP (sealS (bodyR r i))) = (List.range (bodiesN r.share.length)).flatMap (pieceL r) := flatMap_congr' fun i _ => (body_open h i).2
    rw [e, pieces_all, List.take_of_length_le]
    unfold bodiesN; omega
  · rw [List.all_eq_true]
    intro x hx
    obtain ⟨i, _, rfl⟩ := List.mem_map.1 hx
    exact (body_open h i).1
theorem putR_len (r : Rc) : (putR r).length = 1 + bodiesN r.share.length := by
  simp [putR]; omega
theorem putR_con {m x : Rc} (h : m.con = x.con) : putR m = putR x := by
  simp only [Rc.con, Prod.mk.injEq, List.cons.injEq, and_true] at h
  obtain ⟨⟨h1, h2, h3, h4, h5⟩, h6, h7⟩ := h
  simp only [putR, headR, bodyR, pieceL, h1, h2, h3, h4, h5, h6, h7]
/-- What the sectors begin with says the record. -/
theorem put_says {r : Rc} {ss : List (List UInt8)} (h : rcOk r = true) (hp : putR r <+: ss) : ∃ s0 rest, ss = s0 :: rest ∧ openOk s0 = true ∧ headR r <+: openP s0 ∧ bodiesN r.share.length ≤ rest.length ∧ shareG (rest.take (bodiesN r.share.length)) = r.share := by
  obtain ⟨t, ht⟩ := hp
  refine ⟨sealS (headR r), ((List.range (bodiesN r.share.length)).map fun i => sealS (bodyR r i)) ++ t, by rw [← ht]; rfl, (head_open h).1, (head_open h).2, by simp, ?_⟩
  rw [List.take_left' (by simp)]
  exact share_put h
abbrev zeroRc : Rc := ⟨0, ⟨#[]⟩, 0, 0, 0, 0, .slice none 0 0, []⟩
def GotR (ss : List (List UInt8)) (M : Rc) (n : Nat) (ok : Bool) : Prop := (ok = true ∧ rcOk M = true ∧ putR M <+: ss ∧ n = (putR M).length) ∨ (ok = false ∧ M.con = zeroRc.con ∧ n = 0 ∧ ∀ r, rcOk r = true → ¬ putR r <+: ss)
theorem put_one {r x : Rc} {ss : List (List UInt8)} (hr : rcOk r = true) (hx : rcOk x = true) (h1 : putR r <+: ss) (h2 : putR x <+: ss) : r.con = x.con := by
  obtain ⟨s0, rest, e1, _, p1, _, g1⟩ := put_says hr h1
  obtain ⟨s1, rest1, e2, _, p2, _, g2⟩ := put_says hx h2
  rw [e1] at e2
  obtain ⟨rfl, rfl⟩ := List.cons.inj e2
  obtain ⟨a1, ⟨t1, a2⟩, a3, a4, a5, a6, a7⟩ := head_parse hr p1 rfl rfl rfl rfl rfl rfl rfl
  obtain ⟨b1, ⟨t2, b2⟩, b3, b4, b5, b6, b7⟩ := head_parse hx p2 rfl rfl rfl rfl rfl rfl rfl
  have hl : r.share.length = x.share.length := a7.symm.trans b7
  rw [hl] at g1
  have hs : r.share = x.share := g1.symm.trans g2
  have hn : r.name = x.name := by
    have n1 := name_parse (rcOk_bounds hr).1 a2
    have n2 := name_parse (rcOk_bounds hx).1 b2
    have e := n1.1.symm.trans n2.1
    have e2 := congrArg Prod.fst (n1.2.symm.trans n2.2)
    simp only at e2
    rw [e] at e2
    have e3 := List.append_cancel_right e2
    have : r.name.data = x.name.data := by
      apply Array.ext'
      exact e3
    cases hrn : r.name; cases hxn : x.name
    rw [hrn, hxn] at this
    simp only at this
    rw [this]
  simp only [Rc.con, Prod.mk.injEq, List.cons.injEq, and_true]
  exact ⟨⟨by omega, by omega, by omega, by omega, by omega⟩, hn, hs⟩
theorem GotR.one {ss : List (List UInt8)} {M M' : Rc} {n n' : Nat} {ok ok' : Bool} (h : GotR ss M n ok) (h' : GotR ss M' n' ok') : M.con = M'.con ∧ n = n' ∧ ok = ok' := by
  rcases h with ⟨rfl, h1, h2, h3⟩ | ⟨rfl, h1, h2, h3⟩ <;> rcases h' with ⟨rfl, k1, k2, k3⟩ | ⟨rfl, k1, k2, k3⟩
  · have e := put_one h1 k1 h2 k2
    exact ⟨e, by rw [h3, k3, putR_con e], rfl⟩
  · exact absurd h2 (k3 _ h1)
  · exact absurd k2 (h3 _ k1)
  · exact ⟨h1.trans k1.symm, by rw [h2, k2], rfl⟩
end Sh
