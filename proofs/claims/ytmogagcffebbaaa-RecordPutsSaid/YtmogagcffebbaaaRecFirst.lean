/- record.first: what a head says. -/
import Derived.Test.YtmogagcffebbaaaLabelGet
import Derived.Test.YtmogagcffebbaaaRecPut
import Derived.Test.YtmogagcffebbaaaBagTake
set_option linter.unusedVariables false
set_option linter.unusedSimpArgs false
namespace Sh
open Go Go.RowKit Go.Proofs
attribute [local go_sem ↓] Go.wp_at_zero Go.wp_at_succ
set_option maxHeartbeats 1000000
set_option maxRecDepth 100000

abbrev zeroRec : Array Value := #[.int .i64 0, .string ⟨#[]⟩, .int .i64 0, .int .i64 0, .int .i64 0, .int .i64 0, .slice none 0 0]
theorem rcOk_bounds {r : Rc} (hok : rcOk r = true) : nameOk r.name = true ∧ (0 ≤ r.attempt ∧ r.attempt ≤ 4294967295) ∧ (0 ≤ r.epoch ∧ r.epoch ≤ 4294967295) ∧ (0 ≤ r.mark ∧ r.mark ≤ 4294967295) ∧ (0 ≤ r.size ∧ r.size ≤ 240) ∧ r.share.length ≤ 240 ∧ (1 ≤ r.kind ∧ r.kind ≤ 5) := by
  have hk := hok
  simp only [rcOk, Bool.and_eq_true] at hk
  obtain ⟨⟨⟨k1, k2⟩, k3⟩, _⟩ := hk
  have f5 := inAll_mem k3 (x := (r.share.length : Int)) (by simp)
  refine ⟨k1, inAll_mem k2 (x := r.attempt) (by simp), inAll_mem k2 (x := r.epoch) (by simp), inAll_mem k2 (x := r.mark) (by simp), inAll_mem k3 (x := r.size) (by simp), by omega, ?_⟩
  have h := hok
  simp only [rcOk, Bool.and_eq_true, rcKind] at h
  have h := h.2
  split at h
  · omega
  · split at h
    · omega
    · split at h
      · omega
      · split at h
        · omega
        · cases h
theorem num_at {s : PSt} {k : Nat} {n : Int} {r : List UInt8} (h : s = (nb k n ++ r, false)) (hk : wid k = k) (h0 : 0 ≤ n) (h1 : n < 256 ^ k) : ((pNum k s).1 : Int) = n ∧ (pNum k s).2 = (r, false) := by
  rw [h, pNum_nb hk h0 h1]
  exact ⟨Int.toNat_of_nonneg h0, rfl⟩
theorem head_parse {r : Rc} {p : List UInt8} (hok : rcOk r = true) (hp : headR r <+: p) {a1 a2 a3 a4 a5 a6 : Nat × PSt} {q : List UInt8 × PSt} (h1 : a1 = pNum 1 (p.drop 1, false)) (hq : q = pRaw 16 (pNum 1 a1.2).2) (h2 : a2 = pNum 4 q.2) (h3 : a3 = pNum 4 a2.2) (h4 : a4 = pNum 4 a3.2) (h5 : a5 = pNum 2 a4.2) (h6 : a6 = pNum 1 a5.2) :
    (a1.1 : Int) = r.kind ∧ (∃ t, a1.2 = (nameB r.name ++ t, false)) ∧ (a2.1 : Int) = r.attempt ∧ (a3.1 : Int) = r.epoch ∧ (a4.1 : Int) = r.mark ∧ (a5.1 : Int) = r.size ∧ a6.1 = r.share.length := by
  obtain ⟨k1, f1, f2, f3, f4, f5, f6⟩ := rcOk_bounds hok
  obtain ⟨t, ht⟩ := hp
  have hd : p.drop 1 = nb 1 r.kind ++ (nameB r.name ++ (nb 4 r.attempt ++ (nb 4 r.epoch ++ (nb 4 r.mark ++ (nb 2 r.size ++ (nb 1 (r.share.length : Int) ++ t)))))) := by
    rw [← ht, headR]
    simp only [List.append_assoc]
    have : (nb 1 72).length = 1 := by rw [nb_length]; rfl
    exact List.drop_left' this
  obtain ⟨e1, s1⟩ := num_at (k := 1) (s := (p.drop 1, false)) (n := r.kind) (by rw [hd]; rfl) (by decide) (by omega) (show r.kind < 256 ^ 1 by omega)
  rw [← h1] at e1 s1
  have hn := (name_parse k1 s1).2
  rw [← hq] at hn
  have sq : q.2 = (nb 4 r.attempt ++ (nb 4 r.epoch ++ (nb 4 r.mark ++ (nb 2 r.size ++ (nb 1 (r.share.length : Int) ++ t)))), false) := by rw [hn]
  obtain ⟨e2, s2⟩ := num_at (k := 4) sq (by decide) f1.1 (show r.attempt < 256 ^ 4 by omega)
  rw [← h2] at e2 s2
  obtain ⟨e3, s3⟩ := num_at (k := 4) s2 (by decide) f2.1 (show r.epoch < 256 ^ 4 by omega)
  rw [← h3] at e3 s3
  obtain ⟨e4, s4⟩ := num_at (k := 4) s3 (by decide) f3.1 (show r.mark < 256 ^ 4 by omega)
  rw [← h4] at e4 s4
  obtain ⟨e5, s5⟩ := num_at (k := 2) s4 (by decide) f4.1 (show r.size < 256 ^ 2 by omega)
  rw [← h5] at e5 s5
  obtain ⟨e6, s6⟩ := num_at (k := 1) s5 (by decide) (by omega) (show (r.share.length : Int) < 256 ^ 1 by omega)
  rw [← h6] at e6
  exact ⟨e1, ⟨_, s1⟩, e2, e3, e4, e5, by omega⟩
set_option maxHeartbeats 4000000
theorem first_spec {w : World} {R : Snap} {L : Asrt} {v : Value} {p : List UInt8} (H : Holds w R L) (hr : RdB R.cell? v p) (hp60 : p.length = 60) :
    Calls Try.prog 158 #[v] w fun e w' => ∃ (M : Rc) (lg : Nat), e = .returned (.tuple #[.agg M.cells.toArray, .int .i64 (lg : Nat)]) ∧ M.vs = .slice none 0 0 ∧ M.share = [] ∧ M.name.size ≤ 16 ∧ lg < 256 ∧ (∀ r : Rc, rcOk r = true → headR r <+: p → M.kind = r.kind ∧ M.name = r.name ∧ M.attempt = r.attempt ∧ M.epoch = r.epoch ∧ M.mark = r.mark ∧ M.size = r.size ∧ lg = r.share.length) ∧ Holds w' R L := by
  obtain ⟨a0, c0, rfl⟩ := hr.form
  have hB := hr.bounds
  have hr0 := RdB.sub hr 1 60 c0 (by decide) (by omega) (by omega) (Nat.le_refl _)
  rw [List.take_of_length_le (by rw [List.length_drop]; omega)] at hr0
  have hlen : (p.drop 1).length ≤ 1000000 := by rw [List.length_drop]; omega
  have hc60 : 60 ≤ c0 := by omega
  have H1 := H.alloc zeroRec tRec
  have HP := Hid.mk' hp60
  simp only [hp60]
  clear hr hB H hp60
  go_enter Try.func158, Try.ntmps158
  go_wp2_with fail
  generalize (World.alloc ..) = w1 at H1 ⊢
  generalize w.heap.size = z at H1 ⊢
  refine (read_spec H1 hr0).mono ?_
  rintro e w2 ⟨p3, rfl, H2⟩
  clear H1
  have H7 := (H2.alloc zeroRec tRec).swap
  go_wp2_with fail
  generalize (World.alloc ..) = w7 at H7 ⊢
  generalize w2.heap.size = g9 at H7 ⊢
  clear H2
  have hr1 := hr0
  have hl1 := hlen
  clear hr0 hlen
  refine (rd_num (s := (p.drop 1, false)) (k := 1) (by decide) H7 hr1).mono ?_
  rintro e w8 ⟨v2, rfl, H8, hr2⟩
  have hl2 := Nat.le_trans (pNum_le 1 (p.drop 1, false)) hl1
  obtain ⟨a1, ha⟩ : ∃ a, a = pNum 1 (p.drop 1, false) := ⟨_, rfl⟩
  rw [← ha] at H8 hr2 hl2 ⊢
  have A1 := Hid.mk' ha
  clear ha H7 hr1 hl1
  obtain ⟨l8, n8, c8, z8⟩ := Holds.facts (H8.swap)
  go_upto_region 4 with fail
  have H9 := (H8.swap.set 0 (.int .i64 ((a1.1 : Nat) : Int))).swap
  replace H9 : Holds _ R (star (blk p3 #[v2, .bool a1.2.2] rdrT) (star (blk g9 #[.int .i64 ((a1.1 : Nat) : Int), .string ⟨#[]⟩, .int .i64 0, .int .i64 0, .int .i64 0, .int .i64 0, .slice none 0 0] tRec) (star (blk z zeroRec tRec) L))) := H9
  clear H8 l8 n8 c8 z8
  generalize (World.setCell ..) = w9 at H9 ⊢
  have H7 := H9
  have hr1 := hr2
  have hl1 := hl2
  clear H9 hr2 hl2
  go_wp2_with fail
  refine (lget_spec (s := a1.2) H7 hr1 hl1).mono ?_
  rintro e w8 ⟨nm, ob, v2, rfl, H8, hr2, hns, hnc⟩
  obtain ⟨q, hq⟩ : ∃ q, q = pRaw 16 (pNum 1 a1.2).2 := ⟨_, rfl⟩
  rw [← hq] at H8 hr2
  have hl2 : q.2.1.length ≤ 1000000 := by
    rw [hq]
    exact Nat.le_trans (cutRest_le _ _ _) (Nat.le_trans (pNum_le 1 a1.2) hl1)
  have HQ := Hid.mk' hq
  have HNC := Hid.mk' hnc
  clear hq hnc H7 hr1 hl1
  obtain ⟨l8, n8, c8, z8⟩ := Holds.facts (H8.swap)
  go_upto_region 5 with fail
  have H9 := (H8.swap.set 1 (.string nm)).swap
  replace H9 : Holds _ R (star (blk p3 #[v2, .bool q.2.2] rdrT) (star (blk g9 #[.int .i64 ((a1.1 : Nat) : Int), .string nm, .int .i64 0, .int .i64 0, .int .i64 0, .int .i64 0, .slice none 0 0] tRec) (star (blk z zeroRec tRec) L))) := H9
  clear H8 l8 n8 c8 z8
  generalize (World.setCell ..) = w9 at H9 ⊢
  have H7 := H9
  have hr1 := hr2
  have hl1 := hl2
  clear H9 hr2 hl2
  go_wp2_with fail
  refine (rd_num (s := q.2) (k := 4) (by decide) H7 hr1).mono ?_
  rintro e w8 ⟨v2, rfl, H8, hr2⟩
  have hl2 := Nat.le_trans (pNum_le 4 q.2) hl1
  obtain ⟨a2, ha⟩ : ∃ a, a = pNum 4 q.2 := ⟨_, rfl⟩
  rw [← ha] at H8 hr2 hl2 ⊢
  have A2 := Hid.mk' ha
  clear ha H7 hr1 hl1
  obtain ⟨l8, n8, c8, z8⟩ := Holds.facts (H8.swap)
  go_upto_region 6 with fail
  have H9 := (H8.swap.set 2 (.int .i64 ((a2.1 : Nat) : Int))).swap
  replace H9 : Holds _ R (star (blk p3 #[v2, .bool a2.2.2] rdrT) (star (blk g9 #[.int .i64 ((a1.1 : Nat) : Int), .string nm, .int .i64 ((a2.1 : Nat) : Int), .int .i64 0, .int .i64 0, .int .i64 0, .slice none 0 0] tRec) (star (blk z zeroRec tRec) L))) := H9
  clear H8 l8 n8 c8 z8
  generalize (World.setCell ..) = w9 at H9 ⊢
  have H7 := H9
  have hr1 := hr2
  have hl1 := hl2
  clear H9 hr2 hl2
  go_wp2_with fail
  refine (rd_num (s := a2.2) (k := 4) (by decide) H7 hr1).mono ?_
  rintro e w8 ⟨v2, rfl, H8, hr2⟩
  have hl2 := Nat.le_trans (pNum_le 4 a2.2) hl1
  obtain ⟨a3, ha⟩ : ∃ a, a = pNum 4 a2.2 := ⟨_, rfl⟩
  rw [← ha] at H8 hr2 hl2 ⊢
  have A3 := Hid.mk' ha
  clear ha H7 hr1 hl1
  obtain ⟨l8, n8, c8, z8⟩ := Holds.facts (H8.swap)
  go_upto_region 7 with fail
  have H9 := (H8.swap.set 3 (.int .i64 ((a3.1 : Nat) : Int))).swap
  replace H9 : Holds _ R (star (blk p3 #[v2, .bool a3.2.2] rdrT) (star (blk g9 #[.int .i64 ((a1.1 : Nat) : Int), .string nm, .int .i64 ((a2.1 : Nat) : Int), .int .i64 ((a3.1 : Nat) : Int), .int .i64 0, .int .i64 0, .slice none 0 0] tRec) (star (blk z zeroRec tRec) L))) := H9
  clear H8 l8 n8 c8 z8
  generalize (World.setCell ..) = w9 at H9 ⊢
  have H7 := H9
  have hr1 := hr2
  have hl1 := hl2
  clear H9 hr2 hl2
  go_wp2_with fail
  refine (rd_num (s := a3.2) (k := 4) (by decide) H7 hr1).mono ?_
  rintro e w8 ⟨v2, rfl, H8, hr2⟩
  have hl2 := Nat.le_trans (pNum_le 4 a3.2) hl1
  obtain ⟨a4, ha⟩ : ∃ a, a = pNum 4 a3.2 := ⟨_, rfl⟩
  rw [← ha] at H8 hr2 hl2 ⊢
  have A4 := Hid.mk' ha
  clear ha H7 hr1 hl1
  obtain ⟨l8, n8, c8, z8⟩ := Holds.facts (H8.swap)
  go_upto_region 8 with fail
  have H9 := (H8.swap.set 4 (.int .i64 ((a4.1 : Nat) : Int))).swap
  replace H9 : Holds _ R (star (blk p3 #[v2, .bool a4.2.2] rdrT) (star (blk g9 #[.int .i64 ((a1.1 : Nat) : Int), .string nm, .int .i64 ((a2.1 : Nat) : Int), .int .i64 ((a3.1 : Nat) : Int), .int .i64 ((a4.1 : Nat) : Int), .int .i64 0, .slice none 0 0] tRec) (star (blk z zeroRec tRec) L))) := H9
  clear H8 l8 n8 c8 z8
  generalize (World.setCell ..) = w9 at H9 ⊢
  have H7 := H9
  have hr1 := hr2
  have hl1 := hl2
  clear H9 hr2 hl2
  go_wp2_with fail
  refine (rd_num (s := a4.2) (k := 2) (by decide) H7 hr1).mono ?_
  rintro e w8 ⟨v2, rfl, H8, hr2⟩
  have hl2 := Nat.le_trans (pNum_le 2 a4.2) hl1
  obtain ⟨a5, ha⟩ : ∃ a, a = pNum 2 a4.2 := ⟨_, rfl⟩
  rw [← ha] at H8 hr2 hl2 ⊢
  have A5 := Hid.mk' ha
  clear ha H7 hr1 hl1
  obtain ⟨l8, n8, c8, z8⟩ := Holds.facts (H8.swap)
  go_upto_region 9 with fail
  have H9 := (H8.swap.set 5 (.int .i64 ((a5.1 : Nat) : Int))).swap
  replace H9 : Holds _ R (star (blk p3 #[v2, .bool a5.2.2] rdrT) (star (blk g9 #[.int .i64 ((a1.1 : Nat) : Int), .string nm, .int .i64 ((a2.1 : Nat) : Int), .int .i64 ((a3.1 : Nat) : Int), .int .i64 ((a4.1 : Nat) : Int), .int .i64 ((a5.1 : Nat) : Int), .slice none 0 0] tRec) (star (blk z zeroRec tRec) L))) := H9
  clear H8 l8 n8 c8 z8
  generalize (World.setCell ..) = w9 at H9 ⊢
  have H7 := H9
  have hr1 := hr2
  have hl1 := hl2
  clear H9 hr2 hl2
  go_wp2_with fail
  obtain ⟨l8, n8, c8, z8⟩ := Holds.facts (H7.swap)
  obtain ⟨l9, n9, c9, z9⟩ := Holds.facts (H7.pick3)
  obtain ⟨s1, s2⟩ := Holds.apart H7.drop
  have hlt := pNum1_lt a5.2
  have HLT := Hid.mk' hlt
  clear hlt
  go_region_law ((go_simp; go_at_call 127; refine (rd_num (s := a5.2) (k := 1) (by decide) H7.drew hr1).mono ?_; rintro e w10 ⟨v10, rfl, H10, hr10⟩; obtain ⟨l6, n6, c6, z6⟩ := Holds.facts H10.swap; obtain ⟨l7, n7, c7, z7⟩ := Holds.facts H10.pick3))
  all_goals
    clear l8 n8 c8 z8 l9 n9 c9 z9
    go_wp2_with fail
    have H13 := H10.pick3.blkFull [.int .i64 ((a1.1 : Nat) : Int), .string nm, .int .i64 ((a2.1 : Nat) : Int), .int .i64 ((a3.1 : Nat) : Int), .int .i64 ((a4.1 : Nat) : Int), .int .i64 ((a5.1 : Nat) : Int), .slice none 0 0] rfl
    clear l6 n6 c6 z6 l7 n7 c7 z7 H10
    generalize hw9 : World.setCell .. = w13
    replace H13 := Holds.at hw9 H13
    clear hw9
    refine bodyPost_ret (results_cell2 rfl _ _ z tRec _ (0, 0) _ rfl H13.blkAt Try.underlying108 rfl (by kernel_rfl)) rfl ?_
    refine ⟨(⟨((a1.1 : Nat) : Int), nm, ((a2.1 : Nat) : Int), ((a3.1 : Nat) : Int), ((a4.1 : Nat) : Int), ((a5.1 : Nat) : Int), .slice none 0 0, []⟩ : Rc), (pNum 1 a5.2).1, rfl, rfl, rfl, hns, HLT.out, fun r h1 h2 => ?_, H13.drop.drop.drop⟩
    obtain ⟨e1, ⟨t, e2⟩, e3, e4, e5, e6, e7⟩ := head_parse h1 h2 A1.out HQ.out A2.out A3.out A4.out A5.out rfl
    exact ⟨e1, HNC.out _ _ (rcOk_bounds h1).1 e2, e3, e4, e5, e6, e7⟩
end Sh
