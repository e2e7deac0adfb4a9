/- bag.Bag: Len, Put. -/
import Derived.Test.YtmogagcffebbaaaBagOwn
set_option linter.unusedVariables false
set_option linter.unusedSimpArgs false
namespace Sh
open Go Go.RowKit Go.Proofs
attribute [local go_sem ↓] Go.wp_at_zero Go.wp_at_succ
set_option maxHeartbeats 1000000
set_option maxRecDepth 100000

abbrev tBag : TypeId := 56
abbrev tMsgs : TypeId := 54
theorem undMsgs : Try.prog.underlying tMsgs = some (.slice tMsg) := Try.underlying54
theorem infoMsg : (Try.prog.info? tMsg).map (fun i => (i.zero, i.size, i.bytes)) = some (some (.agg zeroMs), 13, 160) := by kernel_rfl
@[go_sem] theorem Ms.lit (kind from_ to_ ballot : Int) (name : ByteArray) (attempt epoch mark size what : Int) (vw vn vd : Value) (who : List Int) (names : List ByteArray) (data : List UInt8) : (Ms.cells ⟨kind, from_, to_, ballot, name, attempt, epoch, mark, size, what, vw, vn, vd, who, names, data⟩).toArray = #[.int .i64 kind, .int .i64 from_, .int .i64 to_, .int .i64 ballot, .string name, .int .i64 attempt, .int .i64 epoch, .int .i64 mark, .int .i64 size, .int .i64 what, vw, vn, vd] := rfl
@[go_sem] theorem Ms.lit2 (kind from_ to_ ballot : Int) (name : ByteArray) (attempt epoch mark size what : Int) (vw vn vd : Value) (who : List Int) (names : List ByteArray) (data : List UInt8) : Ms.cells ⟨kind, from_, to_, ballot, name, attempt, epoch, mark, size, what, vw, vn, vd, who, names, data⟩ = [.int .i64 kind, .int .i64 from_, .int .i64 to_, .int .i64 ballot, .string name, .int .i64 attempt, .int .i64 epoch, .int .i64 mark, .int .i64 size, .int .i64 what, vw, vn, vd] := rfl
@[go_sem] theorem Ms.reLit (kind from_ to_ ballot : Int) (name : ByteArray) (attempt epoch mark size what : Int) (vw vn vd : Value) (who : List Int) (names : List ByteArray) (data : List UInt8) (a b c : Value) : Ms.re ⟨kind, from_, to_, ballot, name, attempt, epoch, mark, size, what, vw, vn, vd, who, names, data⟩ a b c = ⟨kind, from_, to_, ballot, name, attempt, epoch, mark, size, what, a, b, c, who, names, data⟩ := rfl
/-- What a message says. -/
def Ms.con (m : Ms) : List Int × ByteArray × List Int × List ByteArray × List UInt8 := ([m.kind, m.from_, m.to_, m.ballot, m.attempt, m.epoch, m.mark, m.size, m.what], m.name, m.who, m.names, m.data)
theorem msgOk_con {m x : Ms} (h : m.con = x.con) : msgOk m = msgOk x := by
  simp only [Ms.con, Prod.mk.injEq, List.cons.injEq, and_true] at h
  obtain ⟨⟨h1, h2, h3, h4, h5, h6, h7, h8, h9⟩, h10, h11, h12, h13⟩ := h
  simp only [msgOk, h1, h2, h3, h4, h5, h6, h7, h8, h9, h10, h11, h12, h13]
def bagA (p : Nat) (l : List Ms) : Asrt := ex fun v => star (blk p #[v] tBag) (row tMsg 13 v l.length (l.flatMap Ms.cells))
section
variable {w : World} {R : Snap} {L : Asrt} {p : Nat} {l : List Ms}
theorem bag_open (H : Holds w R (star (bagA p l) L)) : ∃ a c, Holds w R (star (blk p #[.slice a l.length c] tBag) (star (row tMsg 13 (.slice a l.length c) l.length (l.flatMap Ms.cells)) L)) := by
  obtain ⟨v, H1⟩ := H.unex
  replace H1 := H1.unstar
  obtain ⟨a, c, rfl⟩ := H1.swap.rowRd.form
  exact ⟨a, c, H1⟩
theorem bag_shut {v : Value} (H : Holds w R (star (blk p #[v] tBag) (star (row tMsg 13 v l.length (l.flatMap Ms.cells)) L))) : Holds w R (star (bagA p l) L) :=
  Holds.toex (A := fun v => star (blk p #[v] tBag) (row tMsg 13 v l.length (l.flatMap Ms.cells))) v H.tostar
theorem bag_new (H : Holds w R L) : Holds (w.alloc (.cells #[.slice none 0 0] tBag)) R (star (bagA w.heap.size []) L) :=
  bag_shut (l := []) (v := .slice none 0 0) ((H.alloc #[.slice none 0 0] tBag).nilRow tMsg 13).swap
theorem blen_spec (H : Holds w R (star (bagA p l) L)) :
    Calls Try.prog 44 #[.pointer (some ⟨p, 0, none⟩)] w fun e w' => e = .returned (.int .i64 l.length) ∧ w = w' := by
  obtain ⟨a, c, H1⟩ := bag_open H
  obtain ⟨l1, n1, c1, z1⟩ := Holds.facts (H1)
  go_enter Try.func44, Try.ntmps44
  go_wp2_with fail
  go_ret
  exact ⟨rfl, rfl⟩
theorem blen_nil : Calls Try.prog 44 #[.pointer none] w fun e w' => e = .returned (.int .i64 0) ∧ w = w' := by
  go_enter Try.func44, Try.ntmps44
  go_wp2_with fail
  go_ret
  exact ⟨rfl, rfl⟩
end
theorem Ms.Rd.one {c : Addr → Option Value} {m : Ms} (h : m.Rd c) : ∀ u ∈ m.cells, u.oneCell' = true := by
  obtain ⟨a, b, h1⟩ := h.1.form
  obtain ⟨a2, b2, h2⟩ := h.2.1.form
  obtain ⟨a3, b3, h3⟩ := h.2.2.form
  intro u hu
  simp only [Ms.cells, h1, h2, h3, List.mem_cons, List.not_mem_nil, or_false] at hu
  rcases hu with rfl | rfl | rfl | rfl | rfl | rfl | rfl | rfl | rfl | rfl | rfl | rfl | rfl <;> rfl

theorem bput_spec {w : World} {R : Snap} {L : Asrt} {p : Nat} {l k : List Ms} {v : Value} (H : Holds w R (star (bagA p l) L)) (hl : ∀ m ∈ l, m.Rd R.cell?) (hr : ∀ w', Holds w' R L → Rd w'.cell? 13 v k.length (k.flatMap Ms.cells)) (hk : ∀ m ∈ k, ∀ w', Holds w' R L → m.Rd w'.cell?) (hz : ∀ m ∈ k, m.Sz) (hb : l.length + k.length ≤ 1000000) :
    Calls Try.prog 37 #[.pointer (some ⟨p, 0, none⟩), v] w fun e w' => e = .returned (.tuple #[]) ∧ ∃ R', R.le R' ∧ ∃ l' : List Ms, (∀ m ∈ l', m.Rd R'.cell?) ∧ l'.map Ms.con = l.map Ms.con ++ (k.filter msgOk).map Ms.con ∧ Holds w' R' (star (bagA p l') L) := by
  obtain ⟨a, c, rfl⟩ := (hr w H.drop).form
  obtain ⟨n, hn⟩ : ∃ n, n = k.length := ⟨_, rfl⟩
  have HN := Hid.mk' hn
  have HR := Hid.mk' hr
  have HK := Hid.mk' hk
  have HL := Hid.mk' hl
  have HZ := Hid.mk' hz
  rw [← hn] at hb ⊢
  clear hr hk hl hz hn
  go_enter Try.func37, Try.ntmps37
  go_wp2_with fail
  go_loopw [8] (fun i wx => ∃ (j : Nat) (R1 : Snap) (l1 : List Ms), i = .int .i64 j ∧ j ≤ n ∧ R.le R1 ∧ Hid (∀ m ∈ l1, m.Rd R1.cell?) ∧ Hid (l1.map Ms.con = l.map Ms.con ++ ((k.take j).filter msgOk).map Ms.con) ∧ l1.length ≤ l.length + j ∧ Holds wx R1 (star (bagA p l1) L)) (fun i _ => n - (intOf i).toNat)
  case atStart => exact ⟨0, R, l, rfl, Nat.zero_le _, Snap.le.refl _, HL, Hid.mk' (by simp), Nat.le_refl _, H⟩
  case round =>
    clear H
    obtain ⟨j, R1, l1, rfl, hj, le1, hA, hC, hlen, H1⟩ := hrel
    by_cases hlt : j < n
    · have hjk : j < k.length := by rw [← HN.out]; exact hlt
      have hm := fun w' h => HK.out k[j] (List.getElem_mem hjk) w' h
      have hz := HZ.out k[j] (List.getElem_mem hjk)
      have hR1 := HR.out _ (H1.drop.weaken le1)
      obtain ⟨bl, ol, rfl, hx⟩ := rd_elt (f := Ms.cells) Ms.cells_len hR1 (by decide) hjk
      have hT : (k.take (j + 1)).filter msgOk = (k.take j).filter msgOk ++ (if msgOk k[j] = true then [k[j]] else []) := by
        rw [List.take_succ_eq_append_getElem hjk, List.filter_append]
        simp only [List.filter_cons, List.filter_nil]
      obtain ⟨y, hy⟩ : ∃ y, y = k[j] := ⟨_, rfl⟩
      rw [← hy] at hx hm hz hT
      have HT := Hid.mk' hT
      have hmy := hm _ (H1.drop.weaken le1)
      have HMY := Hid.mk' hm
      have hzy := Hid.mk' hz
      clear hy hT hR1 hm
      obtain ⟨Y, hY⟩ : ∃ Y, Y = y := ⟨_, rfl⟩
      have HY := Hid.mk' hY
      obtain ⟨kind, from_, to_, ballot, name, attempt, epoch, mark, size, what, vw, vn, vd, who, names, data⟩ := y
      obtain ⟨hw, hn, hd⟩ := hmy
      obtain ⟨z1, z2, z3, z4, z5⟩ := hz
      simp only at z1 z2 z3 z4 z5 hw hn hd
      obtain ⟨aw, cw, rfl⟩ := hw.form
      obtain ⟨an, cn, rfl⟩ := hn.form
      obtain ⟨ad, cd, rfl⟩ := hd.form
      have m0 : wr.cell? ⟨bl, ol + j * 13, none⟩ = some (.int .i64 kind) := hx 0 _ (by omega) rfl
      have m1 : wr.cell? ⟨bl, ol + j * 13 + 1, none⟩ = some (.int .i64 from_) := hx 1 _ (by omega) rfl
      have m2 : wr.cell? ⟨bl, ol + j * 13 + 2, none⟩ = some (.int .i64 to_) := hx 2 _ (by omega) rfl
      have m3 : wr.cell? ⟨bl, ol + j * 13 + 3, none⟩ = some (.int .i64 ballot) := hx 3 _ (by omega) rfl
      have m4 : wr.cell? ⟨bl, ol + j * 13 + 4, none⟩ = some (.string name) := hx 4 _ (by omega) rfl
      have m5 : wr.cell? ⟨bl, ol + j * 13 + 5, none⟩ = some (.int .i64 attempt) := hx 5 _ (by omega) rfl
      have m6 : wr.cell? ⟨bl, ol + j * 13 + 6, none⟩ = some (.int .i64 epoch) := hx 6 _ (by omega) rfl
      have m7 : wr.cell? ⟨bl, ol + j * 13 + 7, none⟩ = some (.int .i64 mark) := hx 7 _ (by omega) rfl
      have m8 : wr.cell? ⟨bl, ol + j * 13 + 8, none⟩ = some (.int .i64 size) := hx 8 _ (by omega) rfl
      have m9 : wr.cell? ⟨bl, ol + j * 13 + 9, none⟩ = some (.int .i64 what) := hx 9 _ (by omega) rfl
      have m10 : wr.cell? ⟨bl, ol + j * 13 + 10, none⟩ = some (.slice aw who.length cw) := hx 10 _ (by omega) rfl
      have m11 : wr.cell? ⟨bl, ol + j * 13 + 11, none⟩ = some (.slice an names.length cn) := hx 11 _ (by omega) rfl
      have m12 : wr.cell? ⟨bl, ol + j * 13 + 12, none⟩ = some (.slice ad data.length cd) := hx 12 _ (by omega) rfl
      clear hx hw hn hd hY
      go_upto_region 3 with fail
      obtain ⟨R2, le2, H2, hb5⟩ := H1.allocR (.cells #[.int .i64 kind, .int .i64 from_, .int .i64 to_, .int .i64 ballot, .string name, .int .i64 attempt, .int .i64 epoch, .int .i64 mark, .int .i64 size, .int .i64 what, .slice aw who.length cw, .slice an names.length cn, .slice ad data.length cd] tMsg (0, 0))
      clear m0 m1 m2 m3 m4 m5 m6 m7 m8 m9 m10 m11 m12
      clear H1
      generalize (World.alloc ..) = w2 at H2 ⊢
      generalize wr.heap.size = g5 at H2 hb5 ⊢
      obtain ⟨l2, n2, c2⟩ := Holds.frzFacts (H2) hb5
      go_wp2_with fail
      refine (right25_spec (⟨kind, from_, to_, ballot, name, attempt, epoch, mark, size, what, .slice aw who.length cw, .slice an names.length cn, .slice ad data.length cd, who, names, data⟩ : Ms) H2 (fun w' h => HMY.out w' (h.weaken (le1.trans le2)).drop) hzy.out).mono ?_
      rintro e w3 ⟨rfl, H3⟩
      clear H2 l2 n2 c2
      cases hok : msgOk (⟨kind, from_, to_, ballot, name, attempt, epoch, mark, size, what, .slice aw who.length cw, .slice an names.length cn, .slice ad data.length cd, who, names, data⟩ : Ms) with
      | false =>
        go_wp2_with fail
        go_roundw
        case rel =>
          refine ⟨j + 1, R2, l1, by go_num, hlt, le1.trans le2, Hid.mk' (fun m hm => (hA.out m hm).le le2), Hid.mk' ?_, by omega, H3⟩
          rw [HT.out, hok, hC.out]
          simp
        case measure => simp [intOf]; omega
      | true =>
        obtain ⟨a3, c3, H4⟩ := bag_open H3
        clear H3
        obtain ⟨l3, n3, c3, z3⟩ := Holds.facts (H4)
        obtain ⟨l4, n4, c4⟩ := Holds.frzFacts (H4) hb5
        go_wp2_with fail
        go_region_law (first | (go_simp; go_at_call 111; refine (own_spec (⟨kind, from_, to_, ballot, name, attempt, epoch, mark, size, what, .slice aw who.length cw, .slice an names.length cn, .slice ad data.length cd, who, names, data⟩ : Ms) H4.drew (fun w' h => HMY.out w' (h.weaken (le1.trans le2)).drop.drop) hzy.out).mono ?_; rintro e w5 ⟨R5, le5, vw5, r1, vn5, r2, vd5, rfl, H5⟩; obtain ⟨R6, le6, H6, r3⟩ := H5.freezeRow; obtain ⟨a5, c5, rfl⟩ := r1.form; obtain ⟨a6, c6, rfl⟩ := r2.form; obtain ⟨a7, c7, rfl⟩ := r3.form; obtain ⟨l6, n6, k6, f6⟩ := Holds.facts H6; have hb6 := le6.blk _ _ (le5.blk _ _ hb5); obtain ⟨l7, n7, k7⟩ := Holds.frzFacts H6 hb6) | (have H7 := H6.alloc #[.int .i64 kind, .int .i64 from_, .int .i64 to_, .int .i64 ballot, .string name, .int .i64 attempt, .int .i64 epoch, .int .i64 mark, .int .i64 size, .int .i64 what, .slice a5 who.length c5, .slice a6 names.length c6, .slice a7 data.length c7] tMsg; have hr7 : Rd _ 13 _ 1 _ := (H7.toRow 13 1 1 (Nat.le_refl _) (by simp [maxLen]) rfl).rowRd; refine step_append rfl _ _ (by rfl) undMsgs infoMsg rfl (by decide) (by rfl) (by rfl) H7.drop.swap hr7 (by simp [Value.oneCell']) (by simp only [maxLen]; omega) (by omega) ?_; intro v8 w8 H8; obtain ⟨a8, c8, rfl⟩ := H8.rowRd.form; have k8 := H8.swap.blkCell; have f8 := H8.swap.blkFrozen))
        all_goals
          go_wp2_with fail
          go_roundw
          case rel =>
            have r1' := Rd.le r1 le6
            have r2' := Rd.le r2 le6
            have H9 := H8.swap.set 0 (.slice a8 (l1.length + 1) c8)
            refine ⟨j + 1, R6, l1 ++ [(⟨kind, from_, to_, ballot, name, attempt, epoch, mark, size, what, .slice a5 who.length c5, .slice a6 names.length c6, .slice a7 data.length c7, who, names, data⟩ : Ms)], by go_num, hlt, ((le1.trans le2).trans le5).trans le6, Hid.mk' (fun m hm => ?_), Hid.mk' ?_, by rw [List.length_append, List.length_singleton]; omega, bag_shut (v := .slice a8 (l1.length + 1) c8) ?_⟩
            · rcases List.mem_append.1 hm with h | h
              · exact (hA.out m h).le ((le2.trans le5).trans le6)
              · rw [List.mem_singleton] at h; subst h; exact ⟨r1', r2', r3⟩
            · rw [HT.out, hok, List.map_append, hC.out]
              simp [Ms.con]
            · rw [List.length_append, List.length_singleton, List.flatMap_append]; exact H9
          case measure => simp [intOf]; omega
    · go_wp2_with fail
      go_end0
      refine ⟨rfl, R1, le1, l1, hA.out, ?_, H1⟩
      rw [hC.out, List.take_of_length_le (by have := HN.out; omega)]
end Sh
