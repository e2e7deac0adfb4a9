/- Msg BagMem BagOwn Bag PackEasy CrcMath: joined texts, each with its own sentence below. -/
import Derived.Test.YtmogagcffebbaaaJd3
import Derived.Lib.SliceRun
import Derived.WalkKit
/- A message: its cells; whether it may be (msg.Right). -/
set_option linter.unusedVariables false
set_option linter.unusedSimpArgs false
namespace Sh
open Go Go.RowKit Go.Proofs
attribute [local go_sem ↓] Go.wp_at_zero Go.wp_at_succ
set_option maxHeartbeats 1000000
set_option maxRecDepth 100000

structure Ms where
  kind : Int
  from_ : Int
  to_ : Int
  ballot : Int
  name : ByteArray
  attempt : Int
  epoch : Int
  mark : Int
  size : Int
  what : Int
  vw : Value
  vn : Value
  vd : Value
  who : List Int
  names : List ByteArray
  data : List UInt8
instance : Inhabited Ms := ⟨⟨0, 0, 0, 0, ByteArray.empty, 0, 0, 0, 0, 0, .slice none 0 0, .slice none 0 0, .slice none 0 0, [], [], []⟩⟩
abbrev tMsg : TypeId := 63
def Ms.cells (m : Ms) : List Value := [.int .i64 m.kind, .int .i64 m.from_, .int .i64 m.to_, .int .i64 m.ballot, .string m.name, .int .i64 m.attempt, .int .i64 m.epoch, .int .i64 m.mark, .int .i64 m.size, .int .i64 m.what, m.vw, m.vn, m.vd]
theorem Ms.cells_len (m : Ms) : m.cells.length = 13 := rfl
/-- The message's slices read as its lists. -/
def Ms.Rd (c : Addr → Option Value) (m : Ms) : Prop := RdI c m.vw m.who ∧ RdS c m.vn m.names ∧ RdB c m.vd m.data
/-- Its sizes. -/
def Ms.Sz (m : Ms) : Prop := m.name.size ≤ maxLen ∧ (∀ s ∈ m.names, s.size ≤ maxLen) ∧ m.who.length ≤ 1000000 ∧ m.names.length ≤ 1000000 ∧ m.data.length ≤ 1000000
theorem Ms.Rd.le {R R' : Snap} {m : Ms} (h : m.Rd R.cell?) (l : R.le R') : m.Rd R'.cell? := ⟨Sh.Rd.le h.1 l, Sh.Rd.le h.2.1 l, Sh.Rd.le h.2.2 l⟩
theorem Ms.Rd.world {w : World} {R : Snap} {L : Asrt} {m : Ms} (h : m.Rd R.cell?) (H : Holds w R L) : m.Rd w.cell? := ⟨Sh.Rd.world h.1 H, Sh.Rd.world h.2.1 H, Sh.Rd.world h.2.2 H⟩
def msgOk (m : Ms) : Bool :=
  decide (1 ≤ m.kind) && decide (m.kind ≤ 25) && decide (m.from_ ≠ m.to_) && inAll 256 [m.from_, m.to_] && inAll 4294967295 [m.ballot, m.attempt, m.epoch, m.mark] && inAll 4294967295 m.who &&
  inAll 240 [m.size, (m.data.length : Int)] && inAll 255 [m.what, (m.who.length : Int)] && decide (m.names.length ≤ 8) && m.names.all nameOk && (decide (m.name.size = 0) || nameOk m.name)

theorem right25_spec {w : World} {R : Snap} {L : Asrt} (m : Ms) (H : Holds w R L) (hr : ∀ w', Holds w' R L → m.Rd w'.cell?) (hz : m.Sz) :
    Calls Try.prog 53 #[.agg m.cells.toArray] w fun e w' => e = .returned (.bool (msgOk m)) ∧ Holds w' R L := by
  obtain ⟨x, hx⟩ : ∃ x, x = msgOk m := ⟨_, rfl⟩
  rw [← hx]
  have hm := hr w H
  obtain ⟨kind, from_, to_, ballot, name, attempt, epoch, mark, size, what, vw, vn, vd, who, names, data⟩ := m
  obtain ⟨hw, hn, hd⟩ := hm
  obtain ⟨z1, z2, z3, z4, z5⟩ := hz
  simp only at z1 z2 z3 z4 z5 hw hn hd
  obtain ⟨aw, cw, rfl⟩ := hw.form
  obtain ⟨an, cn, rfl⟩ := hn.form
  obtain ⟨ad, cd, rfl⟩ := hd.form
  have HX := Hid.mk' hx
  have HM := Hid.mk' hr
  have hR := right_spec z1
  have hz1 := z1
  unfold maxLen at hz1
  obtain ⟨R1, le1, H1, hb⟩ := H.allocR (.cells #[.int .i64 kind, .int .i64 from_, .int .i64 to_, .int .i64 ballot, .string name, .int .i64 attempt, .int .i64 epoch, .int .i64 mark, .int .i64 size, .int .i64 what, .slice aw who.length cw, .slice an names.length cn, .slice ad data.length cd] tMsg (0, 0))
  clear hw hn hd hx H hr
  obtain ⟨l1, n1, c1⟩ := Holds.frzFacts (H1) hb
  show Calls _ _ #[.agg #[.int .i64 kind, .int .i64 from_, .int .i64 to_, .int .i64 ballot, .string name, .int .i64 attempt, .int .i64 epoch, .int .i64 mark, .int .i64 size, .int .i64 what, .slice aw who.length cw, .slice an names.length cn, .slice ad data.length cd]] _ _
  by_cases k1 : kind < 1
  · have t1 : decide (kind < 1) = true := by simpa using k1
    go_enter Try.func53, Try.ntmps53
    go_wp2_with fail
    go_ret
    exact ⟨ret_bool (by rw [HX.out]; simp [msgOk]; omega), H1.weaken le1⟩
  have t1 : decide (kind < 1) = false := by simpa using k1
  by_cases k2 : 25 < kind
  · have t2 : decide (25 < kind) = true := by simpa using k2
    go_enter Try.func53, Try.ntmps53
    go_wp2_with fail
    go_ret
    exact ⟨ret_bool (by rw [HX.out]; simp [msgOk]; omega), H1.weaken le1⟩
  have t2 : decide (25 < kind) = false := by simpa using k2
  by_cases k3 : from_ = to_
  · have t3 : (from_ == to_) = true := by simpa using k3
    have K3 := Hid.mk' k3
    clear k3
    go_enter Try.func53, Try.ntmps53
    go_wp2_with fail
    go_ret
    exact ⟨ret_bool (by rw [HX.out]; simp [msgOk, K3.out]), H1.weaken le1⟩
  have t3 : (from_ == to_) = false := by simpa using k3
  have K := Hid.mk' (And.intro (show 1 ≤ kind by omega) (And.intro (show kind ≤ 25 by omega) k3))
  have H2 := H1.alloc #[.int .i64 from_, .int .i64 to_] tInt
  simp only [World.size_alloc] at H2
  go_enter Try.func53, Try.ntmps53
  go_wp2_with fail
  generalize hg : w.heap.size = g at *
  clear hg
  refine (in_spec (l := [from_, to_]) H2 (fun w' h => (h.toRow 1 2 2 (Nat.le_refl _) (by decide) rfl).rowRd) (by simp)).mono ?_
  rintro e w3 ⟨rfl, H3⟩
  replace H3 := H3.drop
  clear H1 l1 n1 c1 H2
  obtain ⟨l3, n3, c3⟩ := Holds.frzFacts (H3) hb
  cases b4 : inAll 256 [from_, to_] with
  | false =>
    go_wp2_with fail
    go_ret
    exact ⟨ret_bool (by rw [HX.out]; simp [msgOk, b4]), H3.weaken le1⟩
  | true =>
  have B4 := Hid.mk' b4
  clear b4
  have H4 := H3.alloc #[.int .i64 ballot, .int .i64 attempt, .int .i64 epoch, .int .i64 mark] tInt
  go_wp2_with fail
  refine (in_spec (l := [ballot, attempt, epoch, mark]) H4 (fun w' h => (h.toRow 1 4 4 (Nat.le_refl _) (by decide) rfl).rowRd) (by simp)).mono ?_
  rintro e w5 ⟨rfl, H5⟩
  replace H5 := H5.drop
  clear H4 H3 l3 n3 c3
  obtain ⟨l5, n5, c5⟩ := Holds.frzFacts (H5) hb
  cases b5 : inAll 4294967295 [ballot, attempt, epoch, mark] with
  | false =>
    go_wp2_with fail
    go_ret
    exact ⟨ret_bool (by rw [HX.out]; simp [msgOk, b5]), H5.weaken le1⟩
  | true =>
  have B5 := Hid.mk' b5
  clear b5
  go_wp2_with fail
  refine (in_spec H5 (fun w' h => (HM.out w' (h.weaken le1)).1) z3).mono ?_
  rintro e w6 ⟨rfl, H6⟩
  clear H5 l5 n5 c5
  obtain ⟨l6, n6, c6⟩ := Holds.frzFacts (H6) hb
  cases b6 : inAll 4294967295 who with
  | false =>
    go_wp2_with fail
    go_ret
    exact ⟨ret_bool (by rw [HX.out]; simp [msgOk, b6]), H6.weaken le1⟩
  | true =>
  have B6 := Hid.mk' b6
  clear b6
  have H7 := H6.alloc #[.int .i64 size, .int .i64 (data.length : Int)] tInt
  go_wp2_with fail
  refine (in_spec (l := [size, (data.length : Int)]) H7 (fun w' h => (h.toRow 1 2 2 (Nat.le_refl _) (by decide) rfl).rowRd) (by simp)).mono ?_
  rintro e w8 ⟨rfl, H8⟩
  replace H8 := H8.drop
  clear H7 H6 l6 n6 c6
  obtain ⟨l8, n8, c8⟩ := Holds.frzFacts (H8) hb
  cases b7 : inAll 240 [size, (data.length : Int)] with
  | false =>
    go_wp2_with fail
    go_ret
    exact ⟨ret_bool (by rw [HX.out]; simp [msgOk, b7]), H8.weaken le1⟩
  | true =>
  have B7 := Hid.mk' b7
  clear b7
  have H9 := H8.alloc #[.int .i64 what, .int .i64 (who.length : Int)] tInt
  go_wp2_with fail
  refine (in_spec (l := [what, (who.length : Int)]) H9 (fun w' h => (h.toRow 1 2 2 (Nat.le_refl _) (by decide) rfl).rowRd) (by simp)).mono ?_
  rintro e w10 ⟨rfl, H10⟩
  replace H10 := H10.drop
  clear H9 H8 l8 n8 c8
  obtain ⟨l10, n10, c10⟩ := Holds.frzFacts (H10) hb
  cases b8 : inAll 255 [what, (who.length : Int)] with
  | false =>
    go_wp2_with fail
    go_ret
    exact ⟨ret_bool (by rw [HX.out]; simp [msgOk, b8]), H10.weaken le1⟩
  | true =>
  have B8 := Hid.mk' b8
  clear b8
  by_cases k9 : 8 < names.length
  · have t9 : decide ((8 : Int) < (names.length : Int)) = true := by simp; omega
    go_wp2_with fail
    go_ret
    exact ⟨ret_bool (by rw [HX.out]; have : decide (names.length ≤ 8) = false := by simp; omega
                        simp [msgOk, this]), H10.weaken le1⟩
  have t9 : decide ((8 : Int) < (names.length : Int)) = false := by simp; omega
  have K9 : Hid (decide (names.length ≤ 8) = true) := Hid.mk' (by simp; omega)
  clear k9
  go_wp2_with fail
  refine (hasStr_spec H10 (fun w' h => (HM.out w' (h.weaken le1)).2.1) z4 z2).mono ?_
  rintro e w11 ⟨rfl, H11⟩
  clear H10 l10 n10 c10
  obtain ⟨l11, n11, c11⟩ := Holds.frzFacts (H11) hb
  cases b10 : names.all nameOk with
  | false =>
    go_wp2_with fail
    go_ret
    exact ⟨ret_bool (by rw [HX.out]; simp only [msgOk, b10, Bool.and_false, Bool.false_and]), H11.weaken le1⟩
  | true =>
  have B10 := Hid.mk' b10
  clear b10
  have fin : Hid (x = (decide (name.size = 0) || nameOk name)) := Hid.mk' (by
    rw [HX.out]
    simp only [msgOk, B4.out, B5.out, B6.out, B7.out, B8.out, K9.out, B10.out, Bool.and_true, Bool.true_and]
    have h1 : decide (1 ≤ kind) = true := by simpa using K.out.1
    have h2 : decide (kind ≤ 25) = true := by simpa using K.out.2.1
    have h3 : decide (from_ ≠ to_) = true := by simpa using K.out.2.2
    rw [h1, h2, h3]; rfl)
  by_cases hs0 : name.size = 0
  · have e1 : name.toList.isEmpty = true := by rw [str_nil hs0]; rfl
    go_wp2_with fail
    go_ret
    exact ⟨ret_bool (by rw [fin.out]; simp [hs0]), H11.weaken le1⟩
  · have e1 : name.toList.isEmpty = false := str_some (by omega)
    have S0 : Hid (¬ name.size = 0) := Hid.mk' hs0
    clear hs0
    go_wp2_with fail
    refine (hR _).mono ?_
    rintro e w12 ⟨rfl, rfl⟩
    go_wp2_with fail
    go_ret
    exact ⟨ret_bool (by rw [fin.out]; have h := S0.out; simp [h]), H11.weaken le1⟩
end Sh
/- Rows of wide elements: cells stored in a row; 'clear'; a row cut short; clones of numbers and of texts. -/
set_option linter.unusedVariables false
set_option linter.unusedSimpArgs false
namespace Sh
open Go Go.RowKit Go.Proofs
attribute [local go_sem ↓] Go.wp_at_zero Go.wp_at_succ
set_option maxHeartbeats 1000000
set_option maxRecDepth 100000

section
variable {w : World} {R : Snap} {L : Asrt} {t : TypeId} {size n cap g : Nat} {xs : List Value}
theorem Holds.rowSetCells : ∀ (vs : List Value) (o : Nat) (w : World) (xs : List Value), Holds w R (star (row t size (.slice (some ⟨g, 0, none⟩) n cap) n xs) L) → o + vs.length ≤ n * size →
    Holds (w.setCells g o vs) R (star (row t size (.slice (some ⟨g, 0, none⟩) n cap) n (xs.take o ++ (vs ++ xs.drop (o + vs.length)))) L)
  | [], o, w, xs, H, _ => by
    rw [List.nil_append, List.length_nil, Nat.add_zero, List.take_append_drop]; exact H
  | v :: vs, o, w, xs, H, h => by
    simp only [List.length_cons] at h
    have hl := H.rowRd.len
    have H1 := Holds.rowSetCells vs (o + 1) _ _ (H.rowSet o v (by omega)) (by omega)
    have e : (xs.set o v).take (o + 1) ++ (vs ++ (xs.set o v).drop (o + 1 + vs.length)) = xs.take o ++ (v :: vs ++ xs.drop (o + (v :: vs).length)) := by
      rw [List.take_succ_eq_append_getElem (by simp; omega), List.take_set_of_le (Nat.le_refl _), List.getElem_set_self, List.drop_set_of_lt (by omega), List.length_cons, show o + 1 + vs.length = o + (vs.length + 1) by omega]
      simp
    rw [e] at H1
    exact H1
theorem Holds.blkCells : ∀ (vs : List Value) (o : Nat) (w : World) (cs : Array Value), Holds w R (star (Sh.blk g cs t) L) → o + vs.length ≤ cs.size → Holds (w.setCells g o vs) R (star (Sh.blk g (cs.toList.take o ++ (vs ++ cs.toList.drop (o + vs.length))).toArray t) L)
  | [], o, w, cs, H, _ => by
    rw [List.nil_append, List.length_nil, Nat.add_zero, List.take_append_drop]; exact H
  | v :: vs, o, w, cs, H, h => by
    simp only [List.length_cons] at h
    have H1 := Holds.blkCells vs (o + 1) _ _ (H.set o v) (by simp; omega)
    have e : (cs.setIfInBounds o v).toList.take (o + 1) ++ (vs ++ (cs.setIfInBounds o v).toList.drop (o + 1 + vs.length)) = cs.toList.take o ++ (v :: vs ++ cs.toList.drop (o + (v :: vs).length)) := by
      rw [Array.toList_setIfInBounds, List.take_succ_eq_append_getElem (by simp; omega), List.take_set_of_le (Nat.le_refl _), List.getElem_set_self, List.drop_set_of_lt (by omega), List.length_cons, show o + 1 + vs.length = o + (vs.length + 1) by omega]
      simp
    rw [e] at H1
    exact H1
/-- All cells of a block are laid anew. -/
theorem Holds.blkFull {cs : Array Value} (H : Holds w R (star (Sh.blk g cs t) L)) (vs : List Value) (h : cs.size = vs.length) : Holds (w.setCells g 0 vs) R (star (Sh.blk g vs.toArray t) L) := by
  have H1 := Holds.blkCells vs 0 _ _ H (by omega)
  rw [List.take_zero, List.nil_append, List.drop_of_length_le (by simp; omega), List.append_nil] at H1
  exact H1
theorem Snap.someBlk {R : Snap} {b o : Nat} {v : Value} (h : R.cell? ⟨b, o, none⟩ = some v) : (R.blk b).isSome = true := by
  unfold Snap.cell? at h
  cases hb : R.blk b with
  | none => rw [hb] at h; cases h
  | some _ => rfl
theorem Holds.ruleFacts (H : Holds w R L) {b : Nat} (h : (R.blk b).isSome = true) : b < w.heap.size ∧ w.heap.size ≠ b ∧ ∀ o, w.cell? ⟨b, o, none⟩ = R.cell? ⟨b, o, none⟩ :=
  ⟨H.lt b h, (by have := H.lt b h; omega), fun o => H.rule b o h⟩
theorem Snap.le.some {R R' : Snap} (l : R.le R') {b : Nat} (h : (R.blk b).isSome = true) : (R'.blk b).isSome = true := by
  obtain ⟨x, hx⟩ := Option.isSome_iff_exists.1 h
  rw [l.blk _ _ hx]; rfl
theorem Holds.at {w' : World} (h : w = w') (H : Holds w R L) : Holds w' R L := h ▸ H
theorem Holds.rowShrink (H : Holds w R (star (row t size (.slice (some ⟨g, 0, none⟩) n cap) n xs) L)) (m : Nat) (h : m ≤ n) : Holds w R (star (row t size (.slice (some ⟨g, 0, none⟩) m cap) m (xs.take (m * size))) L) := by
  refine H.mono fun F => ?_
  rintro ⟨F1, F2, ha, hl, hd, he⟩
  refine ⟨F1, F2, ?_, hl, hd, he⟩
  obtain ⟨l, c⟩ := ha
  rcases c with ⟨h, _⟩ | ⟨g', cap', cur, e1, e2, r1, r2, r3, r4, e⟩
  · cases h
  · simp only [Value.slice.injEq, Option.some.injEq, Addr.mk.injEq, true_and] at e1
    obtain ⟨⟨rfl, _⟩, rfl⟩ := e1
    have hm : m * size ≤ n * size := Nat.mul_le_mul_right _ h
    exact ⟨by rw [List.length_take]; omega, .inr ⟨g, cap, cur, rfl, e2, by omega, r2, r3, by rw [← r4, List.take_take, Nat.min_eq_left hm], e⟩⟩
end

/-- 'clear(s)' of wide elements. -/
theorem run_clear_wide {P : Program} (w : World) (t e ty : TypeId) (z : Value) (zs : List Value) (ht : P.underlying t = some (.slice e)) (hv : ∀ w, (zeroValue e).run P w = .ok z w) (n : Nat) (hz : (Builtin.zeroCells z.cells n).toList = zs) (h1 : ∀ v ∈ zs, v.oneCell' = true) (b o c : Nat) (hn : 0 < n)
    (hc : ∀ j, j < zs.length → (w.cell? ⟨b, o + j, none⟩).isSome = true) (hf : ∀ j, j < zs.length → w.frozen? ⟨b, o + j, none⟩ = false) :
    (Builtin.clear_ #[t] ty #[.slice (some ⟨b, o, none⟩) n c]).run P w = .ok (.tuple #[]) (w.setCells b o zs) := by
  have hst := run_storeCells_cells (P := P) b o zs 0 w (by simpa using hc) (by simpa using hf) h1
  simp only [Nat.add_zero] at hst
  obtain ⟨m, rfl⟩ : ∃ m, n = m + 1 := ⟨n - 1, by omega⟩
  simp [Builtin.clear_, run_underlying ht, hv, hz, hst]

abbrev tInts : TypeId := 60
theorem undInts : Try.prog.underlying tInts = some (.slice tInt) := Try.underlying60
theorem infoInt : (Try.prog.info? tInt).map (fun i => (i.zero, i.size, i.bytes)) = some (some (.int .i64 0), 1, 8) := by kernel_rfl
theorem ints_one (l : List Int) : ∀ x ∈ l.map (Value.int .i64), x.oneCell' = true := by
  intro x hx; obtain ⟨c, _, rfl⟩ := List.mem_map.1 hx; rfl
abbrev tStr : TypeId := 9
abbrev tStrs : TypeId := 61
theorem undStrs : Try.prog.underlying tStrs = some (.slice tStr) := Try.underlying61
theorem infoStr : (Try.prog.info? tStr).map (fun i => (i.zero, i.size, i.bytes)) = some (some (.string ByteArray.empty), 1, 16) := by kernel_rfl
theorem strs_one (l : List ByteArray) : ∀ x ∈ l.map Value.string, x.oneCell' = true := by
  intro x hx; obtain ⟨c, _, rfl⟩ := List.mem_map.1 hx; rfl
@[go_sem] theorem eqnilInts (w : World) (a : Option Addr) (n c : Nat) : (binOp .eql 60 (.slice a n c) (.slice none 0 0)).run Try.prog w = .ok (.bool a.isNone) w := Lib.run_eql_slice_nil w tInts tInt a n c 0 0 undInts
@[go_sem] theorem eqnilStrs (w : World) (a : Option Addr) (n c : Nat) : (binOp .eql 61 (.slice a n c) (.slice none 0 0)).run Try.prog w = .ok (.bool a.isNone) w := Lib.run_eql_slice_nil w tStrs tStr a n c 0 0 undStrs
theorem cloneInts_spec {w : World} {R : Snap} {L : Asrt} {v : Value} {l : List Int} (H : Holds w R L) (hr : ∀ w', Holds w' R L → RdI w'.cell? v l) (hn : l.length ≤ 1000000) :
    Calls Try.prog 179 #[v] w fun e w' => ∃ v', e = .returned v' ∧ Holds w' R (star (row tInt 1 v' l.length (l.map (Value.int .i64))) L) := by
  obtain ⟨a, cap, rfl⟩ := (hr w H).form
  cases a with
  | none =>
    obtain ⟨a', cap', e1, r1, r2, r3, r4, r5⟩ := hr w H
    simp only [Value.slice.injEq, true_and] at e1
    obtain ⟨rfl, rfl⟩ := e1
    obtain rfl := r4 rfl
    obtain rfl : l = [] := List.eq_nil_of_length_eq_zero (by omega)
    clear r1 r2 r3 r4 r5 hr
    go_enter Try.func179, Try.ntmps179
    go_wp2_with fail
    go_ret
    exact ⟨_, rfl, H.nilRow _ 1⟩
  | some ad =>
    go_enter Try.func179, Try.ntmps179
    go_wp2_with (with_reducible refine stop_append ?_)
    have H1 : Holds _ R (star (row tInt 1 _ 0 []) L) := (H.alloc #[] tInt).toRow 1 0 0 (Nat.le_refl _) (Nat.zero_le _) rfl
    refine Hold.go (wpList_append rfl _ _ rfl undInts infoInt rfl (by decide) rfl rfl H1 (hr _ H1.drop) (ints_one _) (by simp only [maxLen]; omega) (by omega) ?_)
    intro v' w' H2
    rw [Nat.zero_add, List.nil_append] at H2
    go_wp2_with fail
    go_ret
    exact ⟨_, rfl, H2⟩
theorem cloneStrs_spec {w : World} {R : Snap} {L : Asrt} {v : Value} {l : List ByteArray} (H : Holds w R L) (hr : ∀ w', Holds w' R L → RdS w'.cell? v l) (hn : l.length ≤ 1000000) :
    Calls Try.prog 180 #[v] w fun e w' => ∃ v', e = .returned v' ∧ Holds w' R (star (row tStr 1 v' l.length (l.map Value.string)) L) := by
  obtain ⟨a, cap, rfl⟩ := (hr w H).form
  cases a with
  | none =>
    obtain ⟨a', cap', e1, r1, r2, r3, r4, r5⟩ := hr w H
    simp only [Value.slice.injEq, true_and] at e1
    obtain ⟨rfl, rfl⟩ := e1
    obtain rfl := r4 rfl
    obtain rfl : l = [] := List.eq_nil_of_length_eq_zero (by omega)
    clear r1 r2 r3 r4 r5 hr
    go_enter Try.func180, Try.ntmps180
    go_wp2_with fail
    go_ret
    exact ⟨_, rfl, H.nilRow _ 1⟩
  | some ad =>
    go_enter Try.func180, Try.ntmps180
    go_wp2_with (with_reducible refine stop_append ?_)
    have H1 : Holds _ R (star (row tStr 1 _ 0 []) L) := (H.alloc #[] tStr).toRow 1 0 0 (Nat.le_refl _) (Nat.zero_le _) rfl
    refine Hold.go (wpList_append rfl _ _ rfl undStrs infoStr rfl (by decide) rfl rfl H1 (hr _ H1.drop) (strs_one _) (by simp only [maxLen]; omega) (by omega) ?_)
    intro v' w' H2
    rw [Nat.zero_add, List.nil_append] at H2
    go_wp2_with fail
    go_ret
    exact ⟨_, rfl, H2⟩
end Sh
/- bag.own. -/
set_option linter.unusedVariables false
set_option linter.unusedSimpArgs false
namespace Sh
open Go Go.RowKit Go.Proofs
attribute [local go_sem ↓] Go.wp_at_zero Go.wp_at_succ
set_option maxHeartbeats 1000000
set_option maxRecDepth 100000

def Ms.re (m : Ms) (vw vn vd : Value) : Ms := ⟨m.kind, m.from_, m.to_, m.ballot, m.name, m.attempt, m.epoch, m.mark, m.size, m.what, vw, vn, vd, m.who, m.names, m.data⟩
abbrev zeroMs : Array Value := #[.int .i64 0, .int .i64 0, .int .i64 0, .int .i64 0, .string ⟨#[]⟩, .int .i64 0, .int .i64 0, .int .i64 0, .int .i64 0, .int .i64 0, .slice none 0 0, .slice none 0 0, .slice none 0 0]
theorem own_meet {w : World} {R : Snap} {L : Asrt} {g g2 : Nat} {cs cs2 : Array Value} {vS vI : Value} {who : List Int} {names : List ByteArray} (H : Holds w R (star (blk g cs tMsg) (star (row tStr 1 vS names.length (names.map Value.string)) (star (row tInt 1 vI who.length (who.map (Value.int .i64))) (star (blk g2 cs2 tMsg) L))))) :
    ∃ R1, R.le R1 ∧ RdI R1.cell? vI who ∧ RdS R1.cell? vS names ∧ Holds w R1 (star (blk g2 cs2 tMsg) (star (blk g cs tMsg) L)) := by
  obtain ⟨R1, le1, H1, hs⟩ := H.swap.freezeRow
  obtain ⟨R2, le2, H2, hi⟩ := H1.swap.freezeRow
  exact ⟨R2, le1.trans le2, hi, Rd.le hs le2, H2.swap⟩
theorem own_spec {w : World} {R : Snap} {L : Asrt} (m : Ms) (H : Holds w R L) (hr : ∀ w', Holds w' R L → m.Rd w'.cell?) (hz : m.Sz) :
    Calls Try.prog 111 #[.agg m.cells.toArray] w fun e w' => ∃ (R' : Snap), R.le R' ∧ ∃ vw, RdI R'.cell? vw m.who ∧ ∃ vn, RdS R'.cell? vn m.names ∧ ∃ vd, e = .returned (.agg (m.re vw vn vd).cells.toArray) ∧ Holds w' R' (star (rowB vd m.data) L) := by
  have hm := hr w H
  obtain ⟨kind, from_, to_, ballot, name, attempt, epoch, mark, size, what, vw, vn, vd, who, names, data⟩ := m
  obtain ⟨hw, hn, hd⟩ := hm
  obtain ⟨z1, z2, z3, z4, z5⟩ := hz
  simp only at z1 z2 z3 z4 z5 hw hn hd
  obtain ⟨aw, cw, rfl⟩ := hw.form
  obtain ⟨an, cn, rfl⟩ := hn.form
  obtain ⟨ad, cd, rfl⟩ := hd.form
  have HM := Hid.mk' hr
  clear hw hn hd hr
  have H2 := (H.alloc #[.int .i64 kind, .int .i64 from_, .int .i64 to_, .int .i64 ballot, .string name, .int .i64 attempt, .int .i64 epoch, .int .i64 mark, .int .i64 size, .int .i64 what, .slice aw who.length cw, .slice an names.length cn, .slice ad data.length cd] tMsg).alloc zeroMs tMsg
  simp only [World.size_alloc] at H2
  show Calls _ _ #[.agg #[.int .i64 kind, .int .i64 from_, .int .i64 to_, .int .i64 ballot, .string name, .int .i64 attempt, .int .i64 epoch, .int .i64 mark, .int .i64 size, .int .i64 what, .slice aw who.length cw, .slice an names.length cn, .slice ad data.length cd]] _ _
  go_enter Try.func111, Try.ntmps111
  go_wp2_with fail
  generalize (World.alloc ..) = w2 at H2 ⊢
  generalize w.heap.size + 1 = g2 at H2 ⊢
  generalize w.heap.size = g at H2 ⊢
  clear H
  go_cut [] (fun wx => ∃ (R1 : Snap) (ai : Option Addr) (ci : Nat) (as_ : Option Addr) (cs_ : Nat), R.le R1 ∧ RdI R1.cell? (.slice ai who.length ci) who ∧ RdS R1.cell? (.slice as_ names.length cs_) names ∧ Holds wx R1 (star (blk g2 zeroMs tMsg) (star (blk g #[.int .i64 kind, .int .i64 from_, .int .i64 to_, .int .i64 ballot, .string name, .int .i64 attempt, .int .i64 epoch, .int .i64 mark, .int .i64 size, .int .i64 what, .slice ai who.length ci, .slice as_ names.length cs_, .slice ad data.length cd] tMsg) L)))
  case first =>
    obtain ⟨l1, n1, c1, z1⟩ := Holds.facts (H2.swap)
    go_region_law (first | (go_simp; go_at_call 179; refine (cloneInts_spec H2.drew (fun w' h => (HM.out w' h.drop.drop).1) z3).mono ?_; rintro e w3 ⟨v3, rfl, H3⟩; obtain ⟨a3, c3, rfl⟩ := H3.rowRd.form; obtain ⟨l2, n2, k2, f2⟩ := Holds.facts H3.pick3) | (go_simp; go_at_call 180; refine (cloneStrs_spec H2.drew (fun w' h => (HM.out w' h.drop.drop).2.1) z4).mono ?_; rintro e w3 ⟨v4, rfl, H3b⟩; obtain ⟨a4, c4, rfl⟩ := H3b.rowRd.form; obtain ⟨l2, n2, k2, f2⟩ := Holds.facts H3b.pick3) | (go_simp; go_at_call 180; refine (cloneStrs_spec H3 (fun w' h => (HM.out w' h.drop.drop.drop).2.1) z4).mono ?_; rintro e w4 ⟨v4, rfl, H4⟩; obtain ⟨a4, c4, rfl⟩ := H4.rowRd.form; obtain ⟨l4, n4, k4, f4⟩ := Holds.facts H4.pick4) | (go_simp; go_at_call 179; refine (cloneInts_spec H3b (fun w' h => (HM.out w' h.drop.drop.drop).1) z3).mono ?_; rintro e w4 ⟨v3, rfl, H4b⟩; obtain ⟨a3, c3, rfl⟩ := H4b.rowRd.form; have H4 := H4b.swap; obtain ⟨l4, n4, k4, f4⟩ := Holds.facts H4b.pick4))
    all_goals
      go_wp2_with fail
      go_meet
      case rel =>
        have h1 := own_meet (((H4.pick4).set 10 (.slice a3 who.length c3)).set 11 (.slice a4 names.length c4))
        have h2 := own_meet (((H4.pick4).set 11 (.slice a4 names.length c4)).set 10 (.slice a3 who.length c3))
        first | (obtain ⟨R1, q1, q2, q3, q4⟩ := h1; exact ⟨R1, a3, c3, a4, c4, q1, q2, q3, q4⟩) | (obtain ⟨R1, q1, q2, q3, q4⟩ := h2; exact ⟨R1, a3, c3, a4, c4, q1, q2, q3, q4⟩)
  clear H2
  obtain ⟨R1, ai, ci, as_, cs_, le1, ri, rs, H5⟩ := hcut
  obtain ⟨l5, n5, c5, z5⟩ := Holds.facts (H5.swap)
  go_wp2_with (with_reducible refine stop_make ?_)
  refine Hold.go (wpList_makeB (n := data.length) rfl _ _ rfl rfl rfl H5 (by omega) ?_)
  intro v6 w6 H6
  clear l5 n5 c5 z5 H5
  obtain ⟨a6, c6, rfl⟩ := H6.rowRd.form
  rw [List.length_replicate] at H6 ⊢
  obtain ⟨l6, n6, c6, z6⟩ := Holds.facts (H6.pick3)
  go_wp2_with (with_reducible refine stop_copy ?_)
  have HD := fun w' h => (HM.out w' h).2.2
  refine Hold.go (wpList_copyB rfl _ _ rfl rfl rfl H6 (HD _ ((H6.weaken le1).drop.drop.drop)) ?_)
  intro w7 H7
  have e7 : data.take (List.replicate data.length (0 : UInt8)).length ++ (List.replicate data.length (0 : UInt8)).drop data.length = data := by simp
  rw [e7] at H7
  clear H6 l6 n6 c6 z6
  obtain ⟨l7, n7, c7, z7⟩ := Holds.facts (H7.pick3)
  obtain ⟨l8, n8, c8, z8⟩ := Holds.facts (H7.swap)
  obtain ⟨s1, s2⟩ := Holds.apart H7.drop
  go_wp2_with fail
  have H8 := (H7.pick3.set 12 (.slice a6 data.length c6)).pick3
  have H9 := H8.blkFull [.int .i64 kind, .int .i64 from_, .int .i64 to_, .int .i64 ballot, .string name, .int .i64 attempt, .int .i64 epoch, .int .i64 mark, .int .i64 size, .int .i64 what, .slice ai who.length ci, .slice as_ names.length cs_, .slice a6 data.length c6] rfl
  clear H8 H7 l7 n7 c7 z7 l8 n8 c8 z8
  generalize hw9 : World.setCell .. = w9
  replace H9 := Holds.at hw9 H9
  clear hw9
  refine bodyPost_ret (results_cell_row rfl _ _ g2 tMsg _ (0, 0) _ rfl H9.blkAt Try.underlying63 rfl (by kernel_rfl)) rfl ?_
  exact ⟨R1, le1, .slice ai who.length ci, ri, .slice as_ names.length cs_, rs, .slice a6 data.length c6, rfl, H9.drop.drop⟩
end Sh
/- bag.Bag: Len, Put. -/
set_option linter.unusedVariables false
set_option linter.unusedSimpArgs false
namespace Sh
open Go Go.RowKit Go.Proofs
attribute [local go_sem ↓] Go.wp_at_zero Go.wp_at_succ
set_option maxHeartbeats 1000000
set_option maxRecDepth 100000

abbrev tBag : TypeId := 56
abbrev tMsgs : TypeId := 54
theorem undMsgs : Try.prog.underlying tMsgs = some (.slice tMsg) := Try.underlying54
theorem infoMsg : (Try.prog.info? tMsg).map (fun i => (i.zero, i.size, i.bytes)) = some (some (.agg zeroMs), 13, 160) := by kernel_rfl
@[go_sem] theorem Ms.lit (kind from_ to_ ballot : Int) (name : ByteArray) (attempt epoch mark size what : Int) (vw vn vd : Value) (who : List Int) (names : List ByteArray) (data : List UInt8) : (Ms.cells ⟨kind, from_, to_, ballot, name, attempt, epoch, mark, size, what, vw, vn, vd, who, names, data⟩).toArray = #[.int .i64 kind, .int .i64 from_, .int .i64 to_, .int .i64 ballot, .string name, .int .i64 attempt, .int .i64 epoch, .int .i64 mark, .int .i64 size, .int .i64 what, vw, vn, vd] := rfl
@[go_sem] theorem Ms.lit2 (kind from_ to_ ballot : Int) (name : ByteArray) (attempt epoch mark size what : Int) (vw vn vd : Value) (who : List Int) (names : List ByteArray) (data : List UInt8) : Ms.cells ⟨kind, from_, to_, ballot, name, attempt, epoch, mark, size, what, vw, vn, vd, who, names, data⟩ = [.int .i64 kind, .int .i64 from_, .int .i64 to_, .int .i64 ballot, .string name, .int .i64 attempt, .int .i64 epoch, .int .i64 mark, .int .i64 size, .int .i64 what, vw, vn, vd] := rfl
@[go_sem] theorem Ms.reLit (kind from_ to_ ballot : Int) (name : ByteArray) (attempt epoch mark size what : Int) (vw vn vd : Value) (who : List Int) (names : List ByteArray) (data : List UInt8) (a b c : Value) : Ms.re ⟨kind, from_, to_, ballot, name, attempt, epoch, mark, size, what, vw, vn, vd, who, names, data⟩ a b c = ⟨kind, from_, to_, ballot, name, attempt, epoch, mark, size, what, a, b, c, who, names, data⟩ := rfl
/-- What a message says. -/
def Ms.con (m : Ms) : List Int × ByteArray × List Int × List ByteArray × List UInt8 := ([m.kind, m.from_, m.to_, m.ballot, m.attempt, m.epoch, m.mark, m.size, m.what], m.name, m.who, m.names, m.data)
theorem msgOk_con {m x : Ms} (h : m.con = x.con) : msgOk m = msgOk x := by
  simp only [Ms.con, Prod.mk.injEq, List.cons.injEq, and_true] at h
  obtain ⟨⟨h1, h2, h3, h4, h5, h6, h7, h8, h9⟩, h10, h11, h12, h13⟩ := h
  simp only [msgOk, h1, h2, h3, h4, h5, h6, h7, h8, h9, h10, h11, h12, h13]
def bagA (p : Nat) (l : List Ms) : Asrt := ex fun v => star (blk p #[v] tBag) (row tMsg 13 v l.length (l.flatMap Ms.cells))
section
variable {w : World} {R : Snap} {L : Asrt} {p : Nat} {l : List Ms}
theorem bag_open (H : Holds w R (star (bagA p l) L)) : ∃ a c, Holds w R (star (blk p #[.slice a l.length c] tBag) (star (row tMsg 13 (.slice a l.length c) l.length (l.flatMap Ms.cells)) L)) := by
  obtain ⟨v, H1⟩ := H.unex
  replace H1 := H1.unstar
  obtain ⟨a, c, rfl⟩ := H1.swap.rowRd.form
  exact ⟨a, c, H1⟩
theorem bag_shut {v : Value} (H : Holds w R (star (blk p #[v] tBag) (star (row tMsg 13 v l.length (l.flatMap Ms.cells)) L))) : Holds w R (star (bagA p l) L) :=
  Holds.toex (A := fun v => star (blk p #[v] tBag) (row tMsg 13 v l.length (l.flatMap Ms.cells))) v H.tostar
theorem bag_new (H : Holds w R L) : Holds (w.alloc (.cells #[.slice none 0 0] tBag)) R (star (bagA w.heap.size []) L) :=
  bag_shut (l := []) (v := .slice none 0 0) ((H.alloc #[.slice none 0 0] tBag).nilRow tMsg 13).swap
theorem blen_spec (H : Holds w R (star (bagA p l) L)) :
    Calls Try.prog 44 #[.pointer (some ⟨p, 0, none⟩)] w fun e w' => e = .returned (.int .i64 l.length) ∧ w = w' := by
  obtain ⟨a, c, H1⟩ := bag_open H
  obtain ⟨l1, n1, c1, z1⟩ := Holds.facts (H1)
  go_enter Try.func44, Try.ntmps44
  go_wp2_with fail
  go_ret
  exact ⟨rfl, rfl⟩
theorem blen_nil : Calls Try.prog 44 #[.pointer none] w fun e w' => e = .returned (.int .i64 0) ∧ w = w' := by
  go_enter Try.func44, Try.ntmps44
  go_wp2_with fail
  go_ret
  exact ⟨rfl, rfl⟩
end
theorem Ms.Rd.one {c : Addr → Option Value} {m : Ms} (h : m.Rd c) : ∀ u ∈ m.cells, u.oneCell' = true := by
  obtain ⟨a, b, h1⟩ := h.1.form
  obtain ⟨a2, b2, h2⟩ := h.2.1.form
  obtain ⟨a3, b3, h3⟩ := h.2.2.form
  intro u hu
  simp only [Ms.cells, h1, h2, h3, List.mem_cons, List.not_mem_nil, or_false] at hu
  rcases hu with rfl | rfl | rfl | rfl | rfl | rfl | rfl | rfl | rfl | rfl | rfl | rfl | rfl <;> rfl

theorem bput_spec {w : World} {R : Snap} {L : Asrt} {p : Nat} {l k : List Ms} {v : Value} (H : Holds w R (star (bagA p l) L)) (hl : ∀ m ∈ l, m.Rd R.cell?) (hr : ∀ w', Holds w' R L → Rd w'.cell? 13 v k.length (k.flatMap Ms.cells)) (hk : ∀ m ∈ k, ∀ w', Holds w' R L → m.Rd w'.cell?) (hz : ∀ m ∈ k, m.Sz) (hb : l.length + k.length ≤ 1000000) :
    Calls Try.prog 37 #[.pointer (some ⟨p, 0, none⟩), v] w fun e w' => e = .returned (.tuple #[]) ∧ ∃ R', R.le R' ∧ ∃ l' : List Ms, (∀ m ∈ l', m.Rd R'.cell?) ∧ l'.map Ms.con = l.map Ms.con ++ (k.filter msgOk).map Ms.con ∧ Holds w' R' (star (bagA p l') L) := by
  obtain ⟨a, c, rfl⟩ := (hr w H.drop).form
  obtain ⟨n, hn⟩ : ∃ n, n = k.length := ⟨_, rfl⟩
  have HN := Hid.mk' hn
  have HR := Hid.mk' hr
  have HK := Hid.mk' hk
  have HL := Hid.mk' hl
  have HZ := Hid.mk' hz
  rw [← hn] at hb ⊢
  clear hr hk hl hz hn
  go_enter Try.func37, Try.ntmps37
  go_wp2_with fail
  go_loopw [8] (fun i wx => ∃ (j : Nat) (R1 : Snap) (l1 : List Ms), i = .int .i64 j ∧ j ≤ n ∧ R.le R1 ∧ Hid (∀ m ∈ l1, m.Rd R1.cell?) ∧ Hid (l1.map Ms.con = l.map Ms.con ++ ((k.take j).filter msgOk).map Ms.con) ∧ l1.length ≤ l.length + j ∧ Holds wx R1 (star (bagA p l1) L)) (fun i _ => n - (intOf i).toNat)
  case atStart => exact ⟨0, R, l, rfl, Nat.zero_le _, Snap.le.refl _, HL, Hid.mk' (by simp), Nat.le_refl _, H⟩
  case round =>
    clear H
    obtain ⟨j, R1, l1, rfl, hj, le1, hA, hC, hlen, H1⟩ := hrel
    by_cases hlt : j < n
    · have hjk : j < k.length := by rw [← HN.out]; exact hlt
      have hm := fun w' h => HK.out k[j] (List.getElem_mem hjk) w' h
      have hz := HZ.out k[j] (List.getElem_mem hjk)
      have hR1 := HR.out _ (H1.drop.weaken le1)
      obtain ⟨bl, ol, rfl, hx⟩ := rd_elt (f := Ms.cells) Ms.cells_len hR1 (by decide) hjk
      have hT : (k.take (j + 1)).filter msgOk = (k.take j).filter msgOk ++ (if msgOk k[j] = true then [k[j]] else []) := by
        rw [List.take_succ_eq_append_getElem hjk, List.filter_append]
        simp only [List.filter_cons, List.filter_nil]
      obtain ⟨y, hy⟩ : ∃ y, y = k[j] := ⟨_, rfl⟩
      rw [← hy] at hx hm hz hT
      have HT := Hid.mk' hT
      have hmy := hm _ (H1.drop.weaken le1)
      have HMY := Hid.mk' hm
      have hzy := Hid.mk' hz
      clear hy hT hR1 hm
      obtain ⟨Y, hY⟩ : ∃ Y, Y = y := ⟨_, rfl⟩
      have HY := Hid.mk' hY
      obtain ⟨kind, from_, to_, ballot, name, attempt, epoch, mark, size, what, vw, vn, vd, who, names, data⟩ := y
      obtain ⟨hw, hn, hd⟩ := hmy
      obtain ⟨z1, z2, z3, z4, z5⟩ := hz
      simp only at z1 z2 z3 z4 z5 hw hn hd
      obtain ⟨aw, cw, rfl⟩ := hw.form
      obtain ⟨an, cn, rfl⟩ := hn.form
      obtain ⟨ad, cd, rfl⟩ := hd.form
      have m0 : wr.cell? ⟨bl, ol + j * 13, none⟩ = some (.int .i64 kind) := hx 0 _ (by omega) rfl
      have m1 : wr.cell? ⟨bl, ol + j * 13 + 1, none⟩ = some (.int .i64 from_) := hx 1 _ (by omega) rfl
      have m2 : wr.cell? ⟨bl, ol + j * 13 + 2, none⟩ = some (.int .i64 to_) := hx 2 _ (by omega) rfl
      have m3 : wr.cell? ⟨bl, ol + j * 13 + 3, none⟩ = some (.int .i64 ballot) := hx 3 _ (by omega) rfl
      have m4 : wr.cell? ⟨bl, ol + j * 13 + 4, none⟩ = some (.string name) := hx 4 _ (by omega) rfl
      have m5 : wr.cell? ⟨bl, ol + j * 13 + 5, none⟩ = some (.int .i64 attempt) := hx 5 _ (by omega) rfl
      have m6 : wr.cell? ⟨bl, ol + j * 13 + 6, none⟩ = some (.int .i64 epoch) := hx 6 _ (by omega) rfl
      have m7 : wr.cell? ⟨bl, ol + j * 13 + 7, none⟩ = some (.int .i64 mark) := hx 7 _ (by omega) rfl
      have m8 : wr.cell? ⟨bl, ol + j * 13 + 8, none⟩ = some (.int .i64 size) := hx 8 _ (by omega) rfl
      have m9 : wr.cell? ⟨bl, ol + j * 13 + 9, none⟩ = some (.int .i64 what) := hx 9 _ (by omega) rfl
      have m10 : wr.cell? ⟨bl, ol + j * 13 + 10, none⟩ = some (.slice aw who.length cw) := hx 10 _ (by omega) rfl
      have m11 : wr.cell? ⟨bl, ol + j * 13 + 11, none⟩ = some (.slice an names.length cn) := hx 11 _ (by omega) rfl
      have m12 : wr.cell? ⟨bl, ol + j * 13 + 12, none⟩ = some (.slice ad data.length cd) := hx 12 _ (by omega) rfl
      clear hx hw hn hd hY
      go_upto_region 3 with fail
      obtain ⟨R2, le2, H2, hb5⟩ := H1.allocR (.cells #[.int .i64 kind, .int .i64 from_, .int .i64 to_, .int .i64 ballot, .string name, .int .i64 attempt, .int .i64 epoch, .int .i64 mark, .int .i64 size, .int .i64 what, .slice aw who.length cw, .slice an names.length cn, .slice ad data.length cd] tMsg (0, 0))
      clear m0 m1 m2 m3 m4 m5 m6 m7 m8 m9 m10 m11 m12
      clear H1
      generalize (World.alloc ..) = w2 at H2 ⊢
      generalize wr.heap.size = g5 at H2 hb5 ⊢
      obtain ⟨l2, n2, c2⟩ := Holds.frzFacts (H2) hb5
      go_wp2_with fail
      refine (right25_spec (⟨kind, from_, to_, ballot, name, attempt, epoch, mark, size, what, .slice aw who.length cw, .slice an names.length cn, .slice ad data.length cd, who, names, data⟩ : Ms) H2 (fun w' h => HMY.out w' (h.weaken (le1.trans le2)).drop) hzy.out).mono ?_
      rintro e w3 ⟨rfl, H3⟩
      clear H2 l2 n2 c2
      cases hok : msgOk (⟨kind, from_, to_, ballot, name, attempt, epoch, mark, size, what, .slice aw who.length cw, .slice an names.length cn, .slice ad data.length cd, who, names, data⟩ : Ms) with
      | false =>
        go_wp2_with fail
        go_roundw
        case rel =>
          refine ⟨j + 1, R2, l1, by go_num, hlt, le1.trans le2, Hid.mk' (fun m hm => (hA.out m hm).le le2), Hid.mk' ?_, by omega, H3⟩
          rw [HT.out, hok, hC.out]
          simp
        case measure => simp [intOf]; omega
      | true =>
        obtain ⟨a3, c3, H4⟩ := bag_open H3
        clear H3
        obtain ⟨l3, n3, c3, z3⟩ := Holds.facts (H4)
        obtain ⟨l4, n4, c4⟩ := Holds.frzFacts (H4) hb5
        go_wp2_with fail
        go_region_law (first | (go_simp; go_at_call 111; refine (own_spec (⟨kind, from_, to_, ballot, name, attempt, epoch, mark, size, what, .slice aw who.length cw, .slice an names.length cn, .slice ad data.length cd, who, names, data⟩ : Ms) H4.drew (fun w' h => HMY.out w' (h.weaken (le1.trans le2)).drop.drop) hzy.out).mono ?_; rintro e w5 ⟨R5, le5, vw5, r1, vn5, r2, vd5, rfl, H5⟩; obtain ⟨R6, le6, H6, r3⟩ := H5.freezeRow; obtain ⟨a5, c5, rfl⟩ := r1.form; obtain ⟨a6, c6, rfl⟩ := r2.form; obtain ⟨a7, c7, rfl⟩ := r3.form; obtain ⟨l6, n6, k6, f6⟩ := Holds.facts H6; have hb6 := le6.blk _ _ (le5.blk _ _ hb5); obtain ⟨l7, n7, k7⟩ := Holds.frzFacts H6 hb6) | (have H7 := H6.alloc #[.int .i64 kind, .int .i64 from_, .int .i64 to_, .int .i64 ballot, .string name, .int .i64 attempt, .int .i64 epoch, .int .i64 mark, .int .i64 size, .int .i64 what, .slice a5 who.length c5, .slice a6 names.length c6, .slice a7 data.length c7] tMsg; have hr7 : Rd _ 13 _ 1 _ := (H7.toRow 13 1 1 (Nat.le_refl _) (by simp [maxLen]) rfl).rowRd; refine step_append rfl _ _ (by rfl) undMsgs infoMsg rfl (by decide) (by rfl) (by rfl) H7.drop.swap hr7 (by simp [Value.oneCell']) (by simp only [maxLen]; omega) (by omega) ?_; intro v8 w8 H8; obtain ⟨a8, c8, rfl⟩ := H8.rowRd.form; have k8 := H8.swap.blkCell; have f8 := H8.swap.blkFrozen))
        all_goals
          go_wp2_with fail
          go_roundw
          case rel =>
            have r1' := Rd.le r1 le6
            have r2' := Rd.le r2 le6
            have H9 := H8.swap.set 0 (.slice a8 (l1.length + 1) c8)
            refine ⟨j + 1, R6, l1 ++ [(⟨kind, from_, to_, ballot, name, attempt, epoch, mark, size, what, .slice a5 who.length c5, .slice a6 names.length c6, .slice a7 data.length c7, who, names, data⟩ : Ms)], by go_num, hlt, ((le1.trans le2).trans le5).trans le6, Hid.mk' (fun m hm => ?_), Hid.mk' ?_, by rw [List.length_append, List.length_singleton]; omega, bag_shut (v := .slice a8 (l1.length + 1) c8) ?_⟩
            · rcases List.mem_append.1 hm with h | h
              · exact (hA.out m h).le ((le2.trans le5).trans le6)
              · rw [List.mem_singleton] at h; subst h; exact ⟨r1', r2', r3⟩
            · rw [HT.out, hok, List.map_append, hC.out]
              simp [Ms.con]
            · rw [List.length_append, List.length_singleton, List.flatMap_append]; exact H9
          case measure => simp [intOf]; omega
    · go_wp2_with fail
      go_end0
      refine ⟨rfl, R1, le1, l1, hA.out, ?_, H1⟩
      rw [hC.out, List.take_of_length_le (by have := HN.out; omega)]
end Sh
/- The readers where enough is left; numbers and their bytes. -/
set_option linter.unusedVariables false
set_option linter.unusedSimpArgs false
namespace Sh
open Go Go.RowKit Go.Proofs
attribute [local go_sem ↓] Go.wp_at_zero Go.wp_at_succ
set_option maxHeartbeats 1000000
set_option maxRecDepth 100000

theorem cut_yes {rest : List UInt8} {n : Nat} (h : n ≤ rest.length) : cutOk rest false n = true ∧ cutOut rest false n = rest.take n ∧ cutRest rest false n = rest.drop n := by
  have e : cutOk rest false n = true := by simp [cutOk, h]
  exact ⟨e, by simp [cutOut, e], by simp [cutRest, e]⟩
theorem rnum_yes {w : World} {R : Snap} {L : Asrt} {p : Nat} {v : Value} {rest : List UInt8} {k : Int} (H : Holds w R (star (blk p #[v, .bool false] 211) L)) (hr : RdB R.cell? v rest) (hk : wid k ≤ rest.length) :
    Calls Try.prog 127 #[.pointer (some ⟨p, 0, none⟩), .int .i64 k] w fun e w' => ∃ v', e = .returned (.int .i64 (valB (rest.take (wid k)))) ∧ Holds w' R (star (blk p #[v', .bool false] 211) L) ∧ RdB R.cell? v' (rest.drop (wid k)) := by
  obtain ⟨e1, e2, e3⟩ := cut_yes hk
  have h := rnum_spec (k := k) H hr
  rw [e1, e2, e3] at h
  exact h
theorem refrnum_yes {w : World} {R : Snap} {L : Asrt} {p at_ : Nat} {v : Value} {b : List UInt8} {k : Int} (H : Holds w R (star (blk p #[v, .int .i64 at_, .bool false] 167) L)) (hr : RdB R.cell? v b) (hk : at_ + wid k ≤ b.length) (hb : b.length ≤ 1000000) :
    Calls Try.prog 137 #[.pointer (some ⟨p, 0, none⟩), .int .i64 k] w fun e w' => e = .returned (.int .i64 (valB ((b.drop at_).take (wid k)))) ∧ Holds w' R (star (blk p #[v, .int .i64 (at_ + wid k : Nat), .bool false] 167) L) := by
  have hk2 : wid k ≤ (b.drop at_).length := by rw [List.length_drop]; omega
  obtain ⟨e1, e2, e3⟩ := cut_yes hk2
  have h := refrnum_spec (k := k) H hr (by omega) hb
  rw [e1, e2] at h
  rw [show cutAt b at_ false (wid k) = at_ + wid k from by simp [cutAt, e1]] at h
  exact h
theorem be_succ (k n : Nat) : be (k + 1) n = UInt8.ofNat (n / 256 ^ k) :: be k n := by
  unfold be
  rw [List.range_succ_eq_map, List.map_cons, List.map_map]
  congr 1
  apply List.map_congr_left
  intro i hi
  simp only [Function.comp_def]
  rw [show k + 1 - 1 - (i + 1) = k - 1 - i by omega]
theorem be_mod (k n m : Nat) (h : n % 256 ^ k = m % 256 ^ k) : be k n = be k m := by
  unfold be
  apply List.map_congr_left
  intro i hi
  have hi := List.mem_range.1 hi
  apply UInt8.toNat_inj.1
  simp only [UInt8.toNat_ofNat']
  have e : ∀ x : Nat, x / 256 ^ (k - 1 - i) % 2 ^ 8 = x % 256 ^ k / 256 ^ (k - 1 - i) % 256 := fun x => by
    have : 256 ^ k = 256 ^ (k - 1 - i) * (256 * 256 ^ i) := by rw [← Nat.pow_succ', ← Nat.pow_add]; congr 1; omega
    rw [this, Nat.mod_mul_right_div_self, Nat.mod_mul_right_mod]
  rw [e n, e m, h]
theorem valB_cons_aux : ∀ (l : List UInt8) (a : Nat), l.foldl (fun a c => a * 256 + c.toNat) a = a * 256 ^ l.length + valB l
  | [], a => by simp [valB]
  | c :: l, a => by
    have h2 : valB (c :: l) = (0 * 256 + c.toNat) * 256 ^ l.length + valB l := valB_cons_aux l (0 * 256 + c.toNat)
    rw [List.foldl_cons, valB_cons_aux l, h2, List.length_cons, Nat.pow_succ, Nat.zero_mul, Nat.zero_add, Nat.add_mul]
    rw [Nat.mul_assoc, Nat.mul_comm 256, Nat.add_assoc]
theorem valB_cons (c : UInt8) (l : List UInt8) : valB (c :: l) = c.toNat * 256 ^ l.length + valB l := by
  rw [valB, List.foldl_cons, valB_cons_aux]; simp
/-- A number's bytes of bytes that were read as a number. -/
theorem be_valB : ∀ l : List UInt8, be l.length (valB l) = l
  | [] => rfl
  | c :: l => by
    rw [List.length_cons, be_succ, valB_cons]
    have h := valB_lt l
    congr 1
    · rw [Nat.add_comm, Nat.add_mul_div_right _ _ (Nat.pow_pos (by decide)), Nat.div_eq_of_lt h, Nat.zero_add]; simp
    · rw [be_mod l.length (c.toNat * 256 ^ l.length + valB l) (valB l) (by rw [Nat.add_comm, Nat.add_mul_mod_self_right]), be_valB l]
theorem nb_valB {k : Int} {l : List UInt8} (h : l.length = wid k) : nb k (valB l) = l := by
  rw [nb, show max ((valB l : Nat) : Int) 0 = (valB l : Nat) by omega, Int.toNat_natCast, ← h, be_valB]
theorem valB_of_be : ∀ (k n : Nat), valB (be k n) = n % 256 ^ k
  | 0, n => by simp [be, valB, Nat.mod_one]
  | k + 1, n => by
    rw [be_succ, valB_cons, be_length, valB_of_be k n, Nat.pow_succ, Nat.mod_mul]
    rw [show (UInt8.ofNat (n / 256 ^ k)).toNat = n / 256 ^ k % 256 from by simp]
    rw [Nat.mul_comm, Nat.add_comm]
theorem valB_nb {k n : Int} (h0 : 0 ≤ n) (h : n < 256 ^ wid k) : (valB (nb k n) : Int) = n := by
  rw [nb, valB_of_be, Nat.mod_eq_of_lt (by
    have : ((max n 0).toNat : Int) = n := by omega
    have h2 : ((256 ^ wid k : Nat) : Int) = 256 ^ wid k := by norm_cast
    omega)]
  omega
end Sh
/- The sum of 32 bits in plain words: one bit's step, a byte's row, what a burst does to it. -/
set_option linter.unusedVariables false
set_option linter.unusedSimpArgs false
namespace Sh
open Go
abbrev Reg := BitVec 32
/-- One bit's step. -/
def crcStep (x : Reg) : Reg := if x.getLsbD 0 then (x >>> 1) ^^^ 0xEDB88320#32 else x >>> 1
def crcSteps : Nat → Reg → Reg
  | 0, x => x
  | n + 1, x => crcSteps n (crcStep x)
theorem crcStep_xor (x y : Reg) : crcStep (x ^^^ y) = crcStep x ^^^ crcStep y := by
  unfold crcStep
  rw [BitVec.getLsbD_xor]
  have lc : ∀ a b c : Reg, a ^^^ (b ^^^ c) = b ^^^ (a ^^^ c) := fun a b c => by rw [← BitVec.xor_assoc, BitVec.xor_comm a b, BitVec.xor_assoc]
  rw [BitVec.ushiftRight_xor_distrib]
  generalize x >>> 1 = a
  generalize y >>> 1 = b
  generalize 0xEDB88320#32 = p
  cases x.getLsbD 0 <;> cases y.getLsbD 0 <;> simp only [Bool.xor_true, Bool.xor_false, Bool.not_true, Bool.not_false, Bool.false_eq_true, if_true, if_false, Bool.xor_self]
  · rw [BitVec.xor_assoc]
  · rw [BitVec.xor_assoc, BitVec.xor_assoc, BitVec.xor_comm b p]
  · rw [BitVec.xor_assoc, lc p b p, BitVec.xor_self, BitVec.xor_zero]
theorem crcSteps_xor (n : Nat) : ∀ x y : Reg, crcSteps n (x ^^^ y) = crcSteps n x ^^^ crcSteps n y := by
  induction n with
  | zero => intro x y; rfl
  | succ n ih => intro x y; show crcSteps n (crcStep (x ^^^ y)) = _; rw [crcStep_xor, ih]; rfl
theorem crcSteps_add (m n : Nat) : ∀ x : Reg, crcSteps (m + n) x = crcSteps n (crcSteps m x) := by
  induction m with
  | zero => intro x; simp [crcSteps]
  | succ m ih => intro x; rw [Nat.succ_add]; exact ih _
theorem crcStep_top (x : Reg) : (crcStep x).getLsbD 31 = x.getLsbD 0 := by
  unfold crcStep
  split
  · rename_i h
    simp only [BitVec.getLsbD_xor, BitVec.getLsbD_ushiftRight, h]
    rw [show (x.getLsbD (1 + 31)) = false from BitVec.getLsbD_of_ge _ _ (by omega)]
    decide
  · rename_i h
    simp only [BitVec.getLsbD_ushiftRight]
    rw [show (x.getLsbD (1 + 31)) = false from BitVec.getLsbD_of_ge _ _ (by omega)]
    simpa using h
theorem crcStep_inj {x y : Reg} (h : crcStep x = crcStep y) : x = y := by
  have h0 : x.getLsbD 0 = y.getLsbD 0 := by rw [← crcStep_top, ← crcStep_top, h]
  have h1 : x >>> 1 = y >>> 1 := by
    unfold crcStep at h
    rw [h0] at h
    split at h
    · have := congrArg (· ^^^ 0xEDB88320#32) h
      simpa [BitVec.xor_assoc] using this
    · exact h
  apply BitVec.eq_of_getLsbD_eq
  intro i hi
  cases i with
  | zero => exact h0
  | succ i =>
    have := congrArg (fun z => z.getLsbD i) h1
    simp only [BitVec.getLsbD_ushiftRight] at this
    rwa [Nat.add_comm 1 i] at this
theorem crcSteps_inj (n : Nat) : ∀ {x y : Reg}, crcSteps n x = crcSteps n y → x = y := by
  induction n with
  | zero => intro x y h; exact h
  | succ n ih => intro x y h; exact crcStep_inj (ih h)
/-- The register behind k bits. -/
def crcReg (f : Nat → Bool) (r : Reg) : Nat → Reg
  | 0 => r
  | k + 1 => crcStep (crcReg f r k ^^^ (BitVec.ofBool (f k)).setWidth 32)
theorem crcReg_congr {f g : Nat → Bool} {r : Reg} : ∀ {k : Nat}, (∀ i, i < k → f i = g i) → crcReg f r k = crcReg g r k
  | 0, _ => rfl
  | k + 1, h => by
    show crcStep (crcReg f r k ^^^ _) = crcStep (crcReg g r k ^^^ _)
    rw [crcReg_congr (k := k) fun i hi => h i (by omega), h k (by omega)]
theorem crcReg_back {f g : Nat → Bool} {r : Reg} {k : Nat} : ∀ {j : Nat}, (∀ i, k ≤ i → f i = g i) → crcReg f r (k + j) = crcReg g r (k + j) → crcReg f r k = crcReg g r k
  | 0, _, e => e
  | j + 1, h, e => by
    have e1 := crcStep_inj (show crcStep (crcReg f r (k + j) ^^^ (BitVec.ofBool (f (k + j))).setWidth 32) = crcStep (crcReg g r (k + j) ^^^ (BitVec.ofBool (g (k + j))).setWidth 32) from e)
    rw [h (k + j) (by omega)] at e1
    have e2 := congrArg (· ^^^ (BitVec.ofBool (g (k + j))).setWidth 32) e1
    simp only [BitVec.xor_assoc, BitVec.xor_self, BitVec.xor_zero] at e2
    exact crcReg_back h e2
/-- m bits from k on, as a word: the first is the least. -/
def crcWord (f : Nat → Bool) (k : Nat) : Nat → Reg
  | 0 => 0
  | m + 1 => crcWord f k m ^^^ ((BitVec.ofBool (f (k + m))).setWidth 32 <<< m)
theorem crcStep_shl {b : Bool} {m : Nat} (hm : m + 1 < 32) : crcStep ((BitVec.ofBool b).setWidth 32 <<< (m + 1)) = (BitVec.ofBool b).setWidth 32 <<< m := by
  have h0 : ((BitVec.ofBool b).setWidth 32 <<< (m + 1)).getLsbD 0 = false := by simp
  unfold crcStep
  rw [h0]
  simp only [Bool.false_eq_true, if_false]
  apply BitVec.eq_of_getLsbD_eq
  intro i hi
  simp only [BitVec.getLsbD_ushiftRight, BitVec.getLsbD_shiftLeft, BitVec.getLsbD_setWidth]
  by_cases h : i < m
  · simp [h]; omega
  · by_cases h2 : i = m
    · subst h2
      rw [show 1 + i - (i + 1) = 0 by omega, show i - i = 0 by omega, decide_eq_true (show 1 + i < 32 by omega), decide_eq_true hi, decide_eq_false (show ¬ 1 + i < i + 1 by omega), decide_eq_false h]
    · have : ∀ j, 0 < j → (BitVec.ofBool b).getLsbD j = false := fun j hj => BitVec.getLsbD_of_ge _ _ hj
      rw [this (1 + i - (m + 1)) (by omega), this (i - m) (by omega)]; simp
theorem crcSteps_shl {b : Bool} : ∀ {m : Nat}, m < 32 → crcSteps m ((BitVec.ofBool b).setWidth 32 <<< m) = (BitVec.ofBool b).setWidth 32
  | 0, _ => by simp [crcSteps]
  | m + 1, h => by
    show crcSteps m (crcStep _) = _
    rw [crcStep_shl h]; exact crcSteps_shl (by omega)
theorem crcReg_word {f : Nat → Bool} {r : Reg} {k : Nat} : ∀ {m : Nat}, m ≤ 32 → crcReg f r (k + m) = crcSteps m (crcReg f r k ^^^ crcWord f k m)
  | 0, _ => by simp [crcSteps, crcWord]
  | m + 1, h => by
    show crcStep (crcReg f r (k + m) ^^^ (BitVec.ofBool (f (k + m))).setWidth 32) = _
    rw [crcReg_word (m := m) (by omega), show m + 1 = m + 1 from rfl, crcSteps_add m 1]
    show crcStep _ = crcStep _
    congr 1
    rw [crcWord, ← BitVec.xor_assoc, crcSteps_xor m (crcReg f r k ^^^ crcWord f k m), crcSteps_shl (by omega)]
theorem crcWord_bit {f : Nat → Bool} {k : Nat} : ∀ {m i : Nat}, i < 32 → (crcWord f k m).getLsbD i = (decide (i < m) && f (k + i))
  | 0, i, _ => by simp [crcWord]
  | m + 1, i, hi => by
    rw [crcWord, BitVec.getLsbD_xor, crcWord_bit hi, BitVec.getLsbD_shiftLeft, BitVec.getLsbD_setWidth]
    by_cases h : i < m
    · simp [h, Nat.lt_succ_of_lt h]
    · by_cases h2 : i = m
      · subst h2; simp [hi]
      · have h3 : (BitVec.ofBool (f (k + m))).getLsbD (i - m) = false := BitVec.getLsbD_of_ge _ _ (by omega)
        have h4 : ¬ i < m + 1 := by omega
        rw [h3]; simp [h, h4]
/-- Bits that turn, at most 32 in order from one another, are told. -/
theorem crcReg_burst {f g : Nat → Bool} {r : Reg} {n k : Nat} (h : ∀ i, (i < k ∨ k + 32 ≤ i) → f i = g i) (e : crcReg f r n = crcReg g r n) : ∀ i, i < n → f i = g i := by
  intro i hi
  by_cases hk : n ≤ k
  · exact h i (by omega)
  obtain ⟨m, hm, hm2⟩ : ∃ m, m ≤ 32 ∧ ((k + m = n) ∨ (m = 32 ∧ k + m ≤ n)) := by
    by_cases h2 : n ≤ k + 32
    · exact ⟨n - k, by omega, .inl (by omega)⟩
    · exact ⟨32, by omega, .inr ⟨rfl, by omega⟩⟩
  have e1 : crcReg f r (k + m) = crcReg g r (k + m) := by
    rcases hm2 with h2 | ⟨h2, h3⟩
    · rw [h2]; exact e
    · obtain ⟨j, hj⟩ : ∃ j, n = (k + m) + j := ⟨n - (k + m), by omega⟩
      rw [hj] at e
      exact crcReg_back (k := k + m) (fun i hi => h i (by omega)) e
  have e0 : crcReg f r k = crcReg g r k := crcReg_congr fun i hi => h i (by omega)
  rw [crcReg_word hm, crcReg_word hm, e0] at e1
  have e2 := congrArg (crcReg g r k ^^^ ·) (crcSteps_inj m e1)
  simp only [← BitVec.xor_assoc, BitVec.xor_self, BitVec.zero_xor] at e2
  by_cases h4 : i < k
  · exact h i (.inl h4)
  by_cases h5 : k + m ≤ i
  · exact h i (by omega)
  have e3 := congrArg (fun z => z.getLsbD (i - k)) e2
  simp only [crcWord_bit (show i - k < 32 by omega)] at e3
  rw [show k + (i - k) = i by omega, decide_eq_true (show i - k < m by omega)] at e3
  simpa using e3
/-! ### Bytes -/
def bitAt (l : List UInt8) (i : Nat) : Bool := (l.getD (i / 8) 0).toBitVec.getLsbD (i % 8)
def byteStep (x : Reg) (c : UInt8) : Reg := crcSteps 8 (x ^^^ c.toBitVec.setWidth 32)
def crcRun (r : Reg) (l : List UInt8) : Reg := l.foldl byteStep r
def crcOnes : Reg := 4294967295#32
def crcOf (l : List UInt8) : Reg := crcRun crcOnes l ^^^ crcOnes
def fourB (x : Reg) : List UInt8 := (List.range 4).map fun k => UInt8.ofBitVec ((x >>> (8 * k)).setWidth 8)
theorem fourB_length (x : Reg) : (fourB x).length = 4 := by simp [fourB]
theorem crcWord_byte (l : List UInt8) (k : Nat) : crcWord (bitAt l) (8 * k) 8 = (l.getD k 0).toBitVec.setWidth 32 := by
  apply BitVec.eq_of_getLsbD_eq
  intro i hi
  rw [crcWord_bit hi, BitVec.getLsbD_setWidth, decide_eq_true hi, Bool.true_and]
  by_cases h : i < 8
  · unfold bitAt
    rw [decide_eq_true h, show (8 * k + i) / 8 = k by omega, show (8 * k + i) % 8 = i by omega]; rfl
  · rw [decide_eq_false h, BitVec.getLsbD_of_ge _ _ (by omega)]; rfl
theorem crcReg_run (l : List UInt8) (r : Reg) : ∀ k, k ≤ l.length → crcReg (bitAt l) r (8 * k) = crcRun r (l.take k)
  | 0, _ => by simp [crcReg, crcRun]
  | k + 1, h => by
    rw [show 8 * (k + 1) = 8 * k + 8 by omega, crcReg_word (by omega), crcReg_run l r k (by omega), crcWord_byte, List.take_succ_eq_append_getElem (by omega)]
    unfold crcRun
    rw [List.foldl_append, List.getD_eq_getElem?_getD, List.getElem?_eq_getElem (by omega)]; rfl
theorem bitAt_four (x : Reg) (i : Nat) (hi : i < 32) : bitAt (fourB x) i = x.getLsbD i := by
  unfold bitAt fourB
  have h : i / 8 < 4 := by omega
  rw [List.getD_eq_getElem?_getD, List.getElem?_map, List.getElem?_range h]
  show ((x >>> (8 * (i / 8))).setWidth 8).getLsbD (i % 8) = _
  rw [BitVec.getLsbD_setWidth, BitVec.getLsbD_ushiftRight, decide_eq_true (show i % 8 < 8 by omega), Bool.true_and, show 8 * (i / 8) + i % 8 = i by omega]
theorem crcRun_four (r x : Reg) : crcRun r (fourB x) = crcSteps 32 (r ^^^ x) := by
  have h := crcReg_run (fourB x) r 4 (by rw [fourB_length]; omega)
  rw [List.take_of_length_le (by rw [fourB_length]; omega)] at h
  rw [← h, show 8 * 4 = 0 + 32 from rfl, crcReg_word (by omega)]
  show crcSteps 32 (r ^^^ _) = _
  congr 2
  apply BitVec.eq_of_getLsbD_eq
  intro i hi
  rw [crcWord_bit hi, decide_eq_true hi, Nat.zero_add, bitAt_four x i hi, Bool.true_and]
theorem crcRun_append (r : Reg) (a b : List UInt8) : crcRun r (a ++ b) = crcRun (crcRun r a) b := List.foldl_append ..
theorem crcRun_sealed (l : List UInt8) : crcRun crcOnes (l ++ fourB (crcOf l)) = crcSteps 32 crcOnes := by
  rw [crcRun_append, crcRun_four]; unfold crcOf
  rw [← BitVec.xor_assoc, BitVec.xor_self, BitVec.zero_xor]
theorem bits_eq {x y : List UInt8} (hl : x.length = y.length) (h : ∀ i, i < 8 * x.length → bitAt x i = bitAt y i) : x = y := by
  apply List.ext_getElem hl
  intro k h1 h2
  apply UInt8.toBitVec_inj.1
  apply BitVec.eq_of_getLsbD_eq
  intro i hi
  have := h (8 * k + i) (by omega)
  unfold bitAt at this
  rw [show (8 * k + i) / 8 = k by omega, show (8 * k + i) % 8 = i by omega, List.getD_eq_getElem?_getD, List.getD_eq_getElem?_getD, List.getElem?_eq_getElem h1, List.getElem?_eq_getElem h2] at this
  exact this
def sealB (l : List UInt8) : List UInt8 := l ++ fourB (crcOf l)
def goodB (l : List UInt8) : Bool := decide (4 ≤ l.length ∧ l = sealB (l.take (l.length - 4)))
theorem goodB_seal (l : List UInt8) : goodB (sealB l) = true := by
  unfold goodB
  have h : (sealB l).length = l.length + 4 := by simp [sealB, fourB_length]
  rw [decide_eq_true_eq, h, Nat.add_sub_cancel]
  refine ⟨by omega, ?_⟩
  rw [show (sealB l).take l.length = l by simp [sealB]]
/-- What is sealed is good no more if bits of it turn, at most 32 in order from one another. -/
theorem goodB_burst {l x : List UInt8} {k : Nat} (hl : x.length = (sealB l).length) (h : ∀ i, (i < k ∨ k + 32 ≤ i) → bitAt x i = bitAt (sealB l) i) : goodB x = decide (x = sealB l) := by
  rw [Bool.eq_iff_iff, decide_eq_true_eq]
  constructor
  · intro hg
    simp only [goodB, decide_eq_true_eq] at hg
    obtain ⟨h4, hx⟩ := hg
    refine bits_eq hl ?_
    refine crcReg_burst (f := bitAt x) (g := bitAt (sealB l)) (r := crcOnes) (k := k) h ?_
    rw [crcReg_run x crcOnes _ (Nat.le_refl _), List.take_of_length_le (Nat.le_refl _)]
    rw [hl, crcReg_run (sealB l) crcOnes _ (Nat.le_refl _), List.take_of_length_le (Nat.le_refl _)]
    rw [hx]
    exact (crcRun_sealed _).trans (crcRun_sealed l).symm
  · intro e; rw [e]; exact goodB_seal l
/-- The table's way. -/
theorem crcSteps_shift (y : Reg) : ∀ m, m ≤ 8 → (∀ i, 24 ≤ i → y.getLsbD i = false) → crcSteps m (y <<< m) = y
  | 0, _, _ => by simp [crcSteps]
  | m + 1, hm, h => by
    have e : crcStep (y <<< (m + 1)) = y <<< m := by
      have h0 : (y <<< (m + 1)).getLsbD 0 = false := by simp
      unfold crcStep
      rw [h0]
      simp only [Bool.false_eq_true, if_false]
      apply BitVec.eq_of_getLsbD_eq
      intro i hi
      simp only [BitVec.getLsbD_ushiftRight, BitVec.getLsbD_shiftLeft]
      by_cases h1 : i < m
      · rw [decide_eq_true h1, decide_eq_true (show 1 + i < m + 1 by omega)]; simp
      · rw [decide_eq_false h1, decide_eq_false (show ¬ 1 + i < m + 1 by omega), show 1 + i - (m + 1) = i - m by omega, decide_eq_true hi]
        by_cases h2 : 1 + i < 32
        · rw [decide_eq_true h2]
        · rw [h (i - m) (by omega)]; simp
    show crcSteps m (crcStep _) = y
    rw [e]; exact crcSteps_shift y m (by omega) h
def rowOf (i : BitVec 8) : Reg := crcSteps 8 (i.setWidth 32)
theorem byteStep_row (x : Reg) (c : UInt8) : byteStep x c = (x >>> 8) ^^^ rowOf (x.setWidth 8 ^^^ c.toBitVec) := by
  unfold byteStep rowOf
  have e : x ^^^ c.toBitVec.setWidth 32 = ((x >>> 8) <<< 8) ^^^ (x.setWidth 8 ^^^ c.toBitVec).setWidth 32 := by
    apply BitVec.eq_of_getLsbD_eq
    intro i hi
    simp only [BitVec.getLsbD_xor, BitVec.getLsbD_setWidth, BitVec.getLsbD_shiftLeft, BitVec.getLsbD_ushiftRight, decide_eq_true hi, Bool.true_and]
    by_cases h : i < 8
    · simp [h]
    · rw [BitVec.getLsbD_of_ge c.toBitVec i (by omega), show 8 + (i - 8) = i by omega]; simp [h]
  rw [e, crcSteps_xor, crcSteps_shift (x >>> 8) 8 (by omega)]
  intro i hi
  rw [BitVec.getLsbD_ushiftRight, BitVec.getLsbD_of_ge _ _ (by omega)]
end Sh
