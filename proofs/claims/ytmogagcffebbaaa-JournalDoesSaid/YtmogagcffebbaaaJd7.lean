/- JrnDisk JrnPut JrnRun Sector JrnSecs: joined texts, each with its own sentence below. -/
import Derived.Test.YtmogagcffebbaaaJd6
import Derived.Test.YtmogagcffebbaaaJd2
import Derived.BigQuiet
import Derived.Laws.EntriesVeiled
import Derived.WalkMore
import Derived.Test.YtmogagcffebbaaaJd5
import Derived.Stop.BytesEq
import Derived.Laws.Rows
/- The disk's contracts and its reference's, as far as the journal goes. -/
set_option linter.unusedVariables false
set_option linter.unusedSimpArgs false
namespace Sh
open Go Go.RowKit Go.Proofs
attribute [local go_sem ↓] Go.wp_at_zero Go.wp_at_succ
set_option maxHeartbeats 1000000
set_option maxRecDepth 100000

theorem wS_yes {S : List (List UInt8)} {left : Int} {dead : Bool} {i : Int} {b : List UInt8} (h : wOk S.length left dead i b = true) : wS S left dead i b = S.set i.toNat (pad64 b) := by simp [wS, h]
theorem wS_no {S : List (List UInt8)} {left : Int} {dead : Bool} {i : Int} {b : List UInt8} (h : wOk S.length left dead i b = false) : wS S left dead i b = S := by simp [wS, h]
theorem pad64_len {b : List UInt8} (h : b.length ≤ 64) : (pad64 b).length = 64 := by simp [pad64]; omega
theorem all_set {S : List (List UInt8)} {i : Nat} {b : List UInt8} (h : ∀ s ∈ S, s.length = 64) (hb : b.length = 64) : ∀ s ∈ S.set i b, s.length = 64 := by
  intro s hs
  rcases List.mem_or_eq_of_mem_set hs with h1 | h1
  · exact h s h1
  · rw [h1]; exact hb
theorem all_zeros {n : Nat} : ∀ s ∈ zeros n, s.length = 64 := by
  intro s hs
  rw [List.eq_of_mem_replicate hs]; simp
section
variable {w : World} {R : Snap} {L : Asrt} {p : Nat} {S : List (List UInt8)} {left : Int} {dead : Bool}
theorem dpower_spec {n : Int} (H : Holds w R (star (diskS p S left dead) L)) :
    Calls Try.prog 90 #[.pointer (some ⟨p, 0, none⟩), .int .i64 n] w fun e w' => e = .returned (.tuple #[]) ∧ Holds w' R (star (diskS p S (max n (-1)) false) L) := by
  obtain ⟨q, a, c, hq, H1⟩ := disk_open H
  have HQ := Hid.mk' hq
  clear hq H
  obtain ⟨l1, n1, c1, z1⟩ := Holds.facts (H1)
  go_enter Try.func90, Try.ntmps90
  go_wp2_with fail
  go_end0
  exact ⟨rfl, disk_shut HQ.out ((H1.set 1 (.int .i64 (max n (-1)))).set 2 (.bool false))⟩
theorem dpower_nil {n : Int} : Calls Try.prog 90 #[.pointer none, .int .i64 n] w fun e w' => e = .returned (.tuple #[]) ∧ w = w' := by
  go_enter Try.func90, Try.ntmps90
  go_wp2_with fail
  go_end0
  exact ⟨rfl, rfl⟩
theorem ddead_spec (H : Holds w R (star (diskS p S left dead) L)) :
    Calls Try.prog 104 #[.pointer (some ⟨p, 0, none⟩)] w fun e w' => e = .returned (.bool dead) ∧ w = w' := by
  obtain ⟨q, a, c, hq, H1⟩ := disk_open H
  have HQ := Hid.mk' hq
  clear hq H
  obtain ⟨l1, n1, c1, z1⟩ := Holds.facts (H1)
  go_enter Try.func104, Try.ntmps104
  go_wp2_with fail
  go_ret
  exact ⟨rfl, rfl⟩
theorem ddead_nil : Calls Try.prog 104 #[.pointer none] w fun e w' => e = .returned (.bool true) ∧ w = w' := by
  go_enter Try.func104, Try.ntmps104
  go_wp2_with fail
  go_ret
  exact ⟨rfl, rfl⟩
theorem dsize_nil : Calls Try.prog 94 #[.pointer none] w fun e w' => e = .returned (.int .i64 0) ∧ w = w' := by
  go_enter Try.func94, Try.ntmps94
  go_wp2_with fail
  go_ret
  exact ⟨rfl, rfl⟩
end
section
variable {S : List (List UInt8)}
theorem flat64_drop : ∀ {S : List (List UInt8)} (h : ∀ s ∈ S, s.length = 64) (i : Nat), S.flatten.drop (64 * i) = (S.drop i).flatten
  | [], _, i => by simp
  | s :: S, h, 0 => rfl
  | s :: S, h, i + 1 => by
    have h1 := h s List.mem_cons_self
    rw [List.flatten_cons, List.drop_append, List.drop_of_length_le (by rw [h1]; omega), List.nil_append, h1, show 64 * (i + 1) - 64 = 64 * i by omega, List.drop_succ_cons]
    exact flat64_drop (fun x hx => h x (List.mem_cons_of_mem _ hx)) i
theorem flat64_sec (h : ∀ s ∈ S, s.length = 64) {i : Nat} (hi : i < S.length) : (S.flatten.drop (64 * i)).take 64 = S[i] := by
  rw [flat64_drop h, List.drop_eq_getElem_cons hi, List.flatten_cons, List.take_append_of_le_length (by rw [h _ (List.getElem_mem hi)]; exact Nat.le_refl _), List.take_of_length_le (by rw [h _ (List.getElem_mem hi)]; exact Nat.le_refl _)]
theorem flat64_set : ∀ {S : List (List UInt8)} (h : ∀ s ∈ S, s.length = 64) {i j : Nat} (hi : i < S.length) (hj : j < 64) (c : UInt8), S.flatten.set (64 * i + j) c = (S.set i (S[i].set j c)).flatten
  | [], _, i, j, hi, _, _ => by simp at hi
  | s :: S, h, 0, j, hi, hj, c => by
    have h1 := h s List.mem_cons_self
    rw [List.flatten_cons, Nat.mul_zero, Nat.zero_add, List.set_append_left _ _ (by rw [h1]; exact hj)]
    rfl
  | s :: S, h, i + 1, j, hi, hj, c => by
    have h1 := h s List.mem_cons_self
    rw [List.flatten_cons, List.set_append_right _ _ (by rw [h1]; omega), h1, show 64 * (i + 1) + j - 64 = 64 * i + j by omega, flat64_set (fun x hx => h x (List.mem_cons_of_mem _ hx)) (by simpa using hi) hj c]
    rfl
end
/-- The reference's disk: all bytes in one row. -/
def mS (p : Nat) (S : List (List UInt8)) (left : Int) (dead : Bool) : Asrt := ex fun v => star (blk p #[v, .int .i64 left, .bool dead] 134) (rowB v S.flatten)
section
variable {w : World} {R : Snap} {L : Asrt} {p : Nat} {S : List (List UInt8)} {left : Int} {dead : Bool}
theorem m_open (H : Holds w R (star (mS p S left dead) L)) : ∃ a c, Holds w R (star (blk p #[.slice a S.flatten.length c, .int .i64 left, .bool dead] 134) (star (rowB (.slice a S.flatten.length c) S.flatten) L)) := by
  obtain ⟨v, H1⟩ := H.unex
  replace H1 := H1.unstar
  obtain ⟨a, c, rfl⟩ := H1.swap.rowRd.form
  exact ⟨a, c, H1⟩
theorem m_shut {v : Value} (H : Holds w R (star (blk p #[v, .int .i64 left, .bool dead] 134) (star (rowB v S.flatten) L))) : Holds w R (star (mS p S left dead) L) :=
  Holds.toex (A := fun v => star (blk p #[v, .int .i64 left, .bool dead] 134) (rowB v S.flatten)) v H.tostar
theorem mnew_spec {n : Int} (H : Holds w R L) :
    Calls Try.prog 163 #[.int .i64 n] w fun e w' => ∃ p, e = .returned (.pointer (some ⟨p, 0, none⟩)) ∧ Holds w' R (star (mS p (zeros (secN n)) (-1) false) L) := by
  have hfl : ∀ m : Nat, (zeros m).flatten = List.replicate (64 * m) 0 := fun m => by
    induction m with
    | zero => rfl
    | succ m ih => rw [zeros, List.replicate_succ, List.flatten_cons, ih, List.replicate_append_replicate, show 64 + 64 * m = 64 * (m + 1) by omega]
  have main : ∀ m : Nat, m ≤ 512 → 1 ≤ m → secN n = m → (n = (m : Int) ∨ (n < 1 ∧ m = 1) ∨ (512 < n ∧ m = 512)) → Calls Try.prog 163 #[.int .i64 n] w fun e w' => ∃ p, e = .returned (.pointer (some ⟨p, 0, none⟩)) ∧ Holds w' R (star (mS p (zeros m) (-1) false) L) := by
    intro m hm hm1 hs hc
    have HF := Hid.mk' (hfl m)
    have HZ : Hid ((zeros m).flatten.length = 64 * m) := Hid.mk' (by rw [hfl]; simp)
    clear hs hfl
    rcases hc with rfl | ⟨hc, hm2⟩ | ⟨hc, hm2⟩
    · go_enter Try.func163, Try.ntmps163
      go_wp2_with (with_reducible refine stop_make ?_)
      refine Hold.go (wpList_makeB (n := 64 * m) rfl _ _ rfl rfl rfl H (by omega) ?_)
      intro v2 w2 H2
      rw [← HF.out] at H2
      obtain ⟨a2, c2, rfl⟩ := H2.rowRd.form
      have H3 := H2.at_len HZ.out
      rw [HZ.out]
      go_wp2_with fail
      go_ret
      exact ⟨_, rfl, m_shut (H3.alloc _ _)⟩
    · have HM := Hid.mk' hm2
      clear hm2
      go_enter Try.func163, Try.ntmps163
      go_wp2_with (with_reducible refine stop_make ?_)
      refine Hold.go (wpList_makeB (n := 64) rfl _ _ rfl rfl rfl H (by omega) ?_)
      intro v2 w2 H2
      rw [show (64 : Nat) = 64 * m by rw [HM.out], ← HF.out] at H2
      obtain ⟨a2, c2, rfl⟩ := H2.rowRd.form
      have H3 := H2.at_len HZ.out
      rw [HZ.out]
      go_wp2_with fail
      go_ret
      exact ⟨_, rfl, m_shut (H3.alloc _ _)⟩
    · have HM := Hid.mk' hm2
      clear hm2
      go_enter Try.func163, Try.ntmps163
      go_wp2_with (with_reducible refine stop_make ?_)
      refine Hold.go (wpList_makeB (n := 32768) rfl _ _ rfl rfl rfl H (by omega) ?_)
      intro v2 w2 H2
      rw [show (32768 : Nat) = 64 * m by rw [HM.out], ← HF.out] at H2
      obtain ⟨a2, c2, rfl⟩ := H2.rowRd.form
      have H3 := H2.at_len HZ.out
      rw [HZ.out]
      go_wp2_with fail
      go_ret
      exact ⟨_, rfl, m_shut (H3.alloc _ _)⟩
  refine main (secN n) ?_ ?_ rfl ?_
  · unfold secN; omega
  · unfold secN; omega
  · unfold secN; omega
theorem is_spec {i : Int} (H : Holds w R (star (mS p S left dead) L)) (hS : ∀ s ∈ S, s.length = 64) (hl : S.length ≤ 1000) :
    Calls Try.prog 171 #[.pointer (some ⟨p, 0, none⟩), .int .i64 i] w fun e w' => e = .returned (.bool (decide (0 ≤ i ∧ i < S.length))) ∧ w = w' := by
  obtain ⟨a, c, H1⟩ := m_open H
  have hf := flatten_len hS
  obtain ⟨l1, n1, c1, z1⟩ := Holds.facts (H1)
  obtain ⟨n, hn⟩ : ∃ n, n = S.flatten.length := ⟨_, rfl⟩
  have hq : (n : Int) / 64 = S.length := by omega
  rw [← hn] at c1
  clear hf hn
  by_cases h0 : 0 ≤ i
  · have t0 : (decide ((0 : Int) ≤ i)) = true := by simpa using h0
    go_enter Try.func171, Try.ntmps171
    go_wp2_with fail
    go_ret
    exact ⟨ret_bool (by simp [h0]), rfl⟩
  · have t0 : (decide ((0 : Int) ≤ i)) = false := by simpa using h0
    go_enter Try.func171, Try.ntmps171
    go_wp2_with fail
    go_ret
    exact ⟨ret_bool (by simp [h0]), rfl⟩
theorem mpower_spec {n : Int} (H : Holds w R (star (mS p S left dead) L)) :
    Calls Try.prog 91 #[.pointer (some ⟨p, 0, none⟩), .int .i64 n] w fun e w' => e = .returned (.tuple #[]) ∧ Holds w' R (star (mS p S (max n (-1)) false) L) := by
  obtain ⟨a, c, H1⟩ := m_open H
  clear H
  obtain ⟨l1, n1, c1, z1⟩ := Holds.facts (H1)
  by_cases h0 : n < 0
  · rw [show max n (-1) = -1 by omega]
    go_enter Try.func91, Try.ntmps91
    go_wp2_with fail
    go_end0
    exact ⟨rfl, m_shut ((H1.set 1 (.int .i64 (-1))).set 2 (.bool false))⟩
  · rw [show max n (-1) = n by omega]
    go_enter Try.func91, Try.ntmps91
    go_wp2_with fail
    go_end0
    exact ⟨rfl, m_shut ((H1.set 1 (.int .i64 n)).set 2 (.bool false))⟩
theorem mread_spec {i : Int} (H : Holds w R (star (mS p S left dead) L)) (hS : ∀ s ∈ S, s.length = 64) (hl : S.length ≤ 1000) :
    Calls Try.prog 172 #[.pointer (some ⟨p, 0, none⟩), .int .i64 i] w fun e w' => ∃ v, e = .returned v ∧ Holds w' R (star (rowB v (secAt S i)) (star (mS p S left dead) L)) := by
  by_cases h0 : 0 ≤ i ∧ i < S.length
  · have t0 : decide (0 ≤ i ∧ i < S.length) = true := by simpa using h0
    obtain ⟨k, rfl⟩ : ∃ k : Nat, i = k := ⟨i.toNat, by omega⟩
    have hk : k < S.length := by omega
    have e1 : secAt S k = (S.flatten.drop (64 * k)).take 64 := by rw [flat64_sec hS hk, secAt_nat, List.getD, List.getElem?_eq_getElem hk]; rfl
    rw [e1]
    obtain ⟨a, c, H1⟩ := m_open H
    have hf := flatten_len hS
    have hr := H1.swap.rowRd
    have hB := hr.bounds
    have hsub := RdB.sub hr (64 * k) (64 * k + 64) c (by omega) (by omega) (by omega) (Nat.le_refl _)
    have hs9 : ((S.flatten.drop (64 * k)).take 64).length ≤ 64 := by simp; omega
    obtain ⟨l1, n1, c1, z1⟩ := Holds.facts (H1)
    have j1 : (64 : Int) * k + 64 ≤ c := by omega
    have hsz : ∀ w, (Go.sizeOf tU8).run Try.prog w = .ok 1 w := fun w => by kernel_rfl
    obtain ⟨m, hm⟩ : ∃ m : Nat, m = 64 * k := ⟨_, rfl⟩
    have hme : (64 : Int) * k = (m : Int) := by omega
    have j2 : (m : Int) + 64 ≤ c := by omega
    have j3 : m ≤ 64000 := by omega
    rw [← hm] at hsub hs9 ⊢
    have hsub : RdB w.cell? (.slice (Option.map (fun x => x.add m) a) (m + 64 - m) (c - m)) ((S.flatten.drop m).take 64) := by
      have e64 : m + 64 - m = 64 := by omega
      rw [e64] at hsub ⊢
      rw [adr, if_neg (by omega), Nat.mul_one] at hsub
      exact hsub
    have HS := Hid.mk' hS
    clear hS hB e1 h0 j1 hf hm
    have hr2 := hsub.below ((Below.refl _ _).alloc (Nat.le_refl _) (.cells #[] tU8))
    go_enter Try.func172, Try.ntmps172
    go_wp2_with (with_reducible refine stop_append ?_)
    refine (is_spec H HS.out hl).mono ?_
    rintro e w1 ⟨rfl, rfl⟩
    rw [t0]
    go_wp2_with (with_reducible refine stop_append ?_)
    refine Hold.go (wpList_appendB rfl _ _ rfl rfl rfl (freshB H) hr2 (by simp only [List.length_nil]; omega) ?_)
    intro v2 w2 H2
    go_wp2_with fail
    go_ret
    exact ⟨_, rfl, H2⟩
  · have t0 : decide (0 ≤ i ∧ i < S.length) = false := by simpa using h0
    have e1 : secAt S i = [] := by
      unfold secAt
      split
      · rw [List.getD, List.getElem?_eq_none (by omega)]; rfl
      · rfl
    rw [e1]
    have HS := Hid.mk' hS
    clear e1 hS
    go_enter Try.func172, Try.ntmps172
    go_wp2_with fail
    refine (is_spec H HS.out hl).mono ?_
    rintro e w1 ⟨rfl, rfl⟩
    rw [t0]
    go_wp2_with fail
    go_ret
    exact ⟨_, rfl, H.nilRow _ 1⟩
end
theorem mix_set {b s : List UInt8} {j : Nat} (hb : b.length = 64) (hs : s.length = 64) (hj : j < 64) : (b.take j ++ s.drop j).set j (b[j]'(by omega)) = b.take (j + 1) ++ s.drop (j + 1) := by
  have hl : (b.take j).length = j := by simp; omega
  rw [List.set_append_right _ _ (by omega), hl, Nat.sub_self, List.drop_eq_getElem_cons (by omega), List.set_cons_zero, List.take_succ_eq_append_getElem (by omega), List.append_assoc]
  rfl
section
variable {w : World} {R : Snap} {L : Asrt} {p : Nat} {S : List (List UInt8)} {left : Int} {dead : Bool}
theorem mset_spec {k : Nat} {v : Value} {b : List UInt8} (H : Holds w R (star (mS p S left dead) L)) (hS : ∀ s ∈ S, s.length = 64) (hl : S.length ≤ 1000) (hk : k < S.length) (hr : RdB R.cell? v b) (hb : b.length = 64) :
    Calls Try.prog 177 #[.pointer (some ⟨p, 0, none⟩), .int .i64 k, v] w fun e w' => e = .returned (.tuple #[]) ∧ Holds w' R (star (mS p (S.set k b) left dead) L) := by
  obtain ⟨a, c, H1⟩ := m_open H
  have hf := flatten_len hS
  obtain ⟨g, cg, ha, hcg, hg, hcell, hfro⟩ := H1.swap.rowAt (by omega)
  simp only [Value.slice.injEq, true_and] at ha
  obtain ⟨rfl, rfl⟩ := ha
  clear hcell hfro
  obtain ⟨ab, cb, rfl⟩ := hr.form
  have hr := RdB.at_len hr hb
  rw [hb]
  obtain ⟨n, hn⟩ : ∃ n, n = 64 * S.length := ⟨_, rfl⟩
  have hfn : S.flatten.length = n := by omega
  have hsk : S[k].length = 64 := hS _ (List.getElem_mem hk)
  have H2 : Holds w R (star (row tU8 1 (.slice (some ⟨g, 0, none⟩) n c) n (u8s (S.set k (b.take 0 ++ S[k].drop 0)).flatten)) (star (blk p #[.slice (some ⟨g, 0, none⟩) n c, .int .i64 left, .bool dead] 134) L)) := by
    have h := H1.swap
    rw [hfn] at h
    rw [List.take_zero, List.nil_append, List.drop_zero, List.set_getElem_self]
    unfold rowB at h
    rw [hfn] at h
    exact h
  have HS := Hid.mk' hS
  have HB := Hid.mk' hb
  have HSK := Hid.mk' hsk
  have HN := Hid.mk' hn
  obtain ⟨m, hm⟩ : ∃ m, m = 64 * k := ⟨_, rfl⟩
  have hmn : m + 64 ≤ n := by omega
  have hn9 : n ≤ 64000 := by omega
  have hme : (64 : Int) * k = (m : Int) := by omega
  have hwm : IntKind.i64.wrap (m : Int) = (m : Int) := IntWalk.i64_in _ (by omega)
  have HM := Hid.mk' hm
  clear hS hb hfn hf H1 H hn hsk hm
  go_enter Try.func177, Try.ntmps177
  go_wp2_with fail
  go_loopw [6] (fun i wx => ∃ j : Nat, i = .int .i64 j ∧ j ≤ 64 ∧ Holds wx R (star (row tU8 1 (.slice (some ⟨g, 0, none⟩) n c) n (u8s (S.set k (b.take j ++ S[k].drop j)).flatten)) (star (blk p #[.slice (some ⟨g, 0, none⟩) n c, .int .i64 left, .bool dead] 134) L))) (fun i _ => 64 - (intOf i).toNat)
  case atStart => exact ⟨0, rfl, Nat.zero_le _, H2⟩
  case round =>
    clear H2
    obtain ⟨j, rfl, hj, H3⟩ := hrel
    by_cases hlt : j < 64
    · obtain ⟨b1, o1, rfl, hc⟩ := RdB.open (n := 64) (cap := cb) (l := b) (hr.world H3) (by rw [HB.out]; decide)
      have cj := hc j (by rw [HB.out]; exact hlt)
      have hmix : Hid ((S.set k (b.take j ++ S[k].drop j)).flatten.set (m + j) (b[j]'(by rw [HB.out]; exact hlt)) = (S.set k (b.take (j + 1) ++ S[k].drop (j + 1))).flatten) := Hid.mk' (by
        have hl2 : (b.take j ++ S[k].drop j).length = 64 := by have h1 := HB.out; have h2 := HSK.out; simp; omega
        rw [HM.out, flat64_set (all_set HS.out hl2) (by simpa using hk) hlt, List.getElem_set_self, mix_set HB.out HSK.out hlt, List.set_set])
      generalize b[j]'(by rw [HB.out]; exact hlt) = x at cj hmix
      obtain ⟨t, ht⟩ : ∃ t, t = m + j := ⟨_, rfl⟩
      have hte : (m : Int) + (j : Int) = (t : Int) := by omega
      have hwt : IntKind.i64.wrap (t : Int) = (t : Int) := IntWalk.i64_in _ (by omega)
      have htn : t < n := by omega
      have i1 : (0 : Int) ≤ (t : Int) := by omega
      have i2 : (t : Int) < (n : Int) := by omega
      have i3 : (0 : Int) ≤ (j : Int) := by omega
      have i4 : (j : Int) < 64 := by omega
      rw [← ht] at hmix
      obtain ⟨g2, cap, e1, hc2, hg2, hcl, hfz⟩ := H3.rowAt (by omega)
      simp only [Value.slice.injEq, true_and] at e1
      obtain ⟨e1, rfl⟩ := e1
      simp only [Option.some.injEq, Addr.mk.injEq, and_true] at e1
      subst e1
      have hlen2 : t < (u8s (S.set k (b.take j ++ S[k].drop j)).flatten).length := by
        have := H3.rowRd.len; omega
      have ct := hcl t _ (List.getElem?_eq_getElem hlen2)
      have ft := hfz t
      have hfin : ∀ w', w' = wr.drew.setCell ⟨g, t, none⟩ (.int .u8 (x.toNat : Int)) → Holds w' R (star (row tU8 1 (.slice (some ⟨g, 0, none⟩) n c) n (u8s (S.set k (b.take (j + 1) ++ S[k].drop (j + 1))).flatten)) (star (blk p #[.slice (some ⟨g, 0, none⟩) n c, .int .i64 left, .bool dead] 134) L)) := by
        rintro w' rfl
        have h := row_write H3.drew t (x.toNat : Int) htn (by have := u8_lt x; omega)
        rw [Int.toNat_natCast, show UInt8.ofNat x.toNat = x by simp, hmix.out] at h
        exact h
      have HF := Hid.mk' hfin
      obtain ⟨l3, n3, c3, z3⟩ := Holds.facts (H3.swap)
      generalize (u8s (S.set k (b.take j ++ S[k].drop j)).flatten)[t] = old at ct
      clear hc hcl hfz hfin ht hlen2
      go_wp2_with fail
      go_still_tail 13, (by kernel_rfl)
      change wpList _ _ _ _ _ wr.drew
      go_wp2_with fail
      go_roundw
      case rel => exact ⟨j + 1, by go_num, hlt, HF.out _ rfl⟩
      case measure => simp [intOf]; omega
    · obtain rfl : j = 64 := by omega
      have e1 : b.take 64 ++ S[k].drop 64 = b := by rw [List.take_of_length_le (by rw [HB.out]; exact Nat.le_refl _), List.drop_of_length_le (by rw [HSK.out]; exact Nat.le_refl _), List.append_nil]
      rw [e1] at H3
      clear e1
      go_wp2_with fail
      go_end0
      refine ⟨rfl, m_shut (v := .slice (some ⟨g, 0, none⟩) n c) ?_⟩
      have e2 : (S.set k b).flatten.length = n := by rw [flatten_len (all_set HS.out HB.out), List.length_set]; exact HN.out.symm
      exact (Holds.toRowB H3 e2).swap
theorem mwrite_spec {i : Int} {v : Value} {b : List UInt8} (H : Holds w R (star (mS p S left dead) L)) (hS : ∀ s ∈ S, s.length = 64) (hl9 : S.length ≤ 1000) (hr : RdB R.cell? v b) (hl : -1 ≤ left ∧ left ≤ 9223372036854775807) :
    Calls Try.prog 102 #[.pointer (some ⟨p, 0, none⟩), .int .i64 i, v] w fun e w' => e = .returned (.bool (wOk S.length left dead i b)) ∧ Holds w' R (star (mS p (wS S left dead i b) (wLeft S.length left dead i b) (wDead S.length left dead i b)) L) := by
  have hr0 := hr
  obtain ⟨ab, cb, rfl⟩ := hr.form
  have HS := Hid.mk' hS
  clear hS
  by_cases h0 : 0 ≤ i ∧ i < S.length
  · have t0 : decide (0 ≤ i ∧ i < S.length) = true := by simpa using h0
    by_cases h1 : b.length = 0 ∨ b.length = 64
    · have e0 : wFit S.length i b = true := by simp only [wFit, decide_eq_true_eq]; exact ⟨h0, h1⟩
      have e1 : wOk S.length left dead i b = spendOk left dead := by simp [wOk, e0]
      simp only [wS, wLeft, wDead, e1, e0, if_true]
      clear e0 e1
      obtain ⟨k, rfl⟩ : ∃ k : Nat, i = k := ⟨i.toNat, by omega⟩
      have hk : k < S.length := by omega
      rw [Int.toNat_natCast]
      have hz : (((b.length : Int) != 0) = false ∧ b = [] ∧ ((b.length : Int) == 0) = true) ∨ (((b.length : Int) != 0) = true ∧ ((b.length : Int) != 64) = false ∧ b.length = 64 ∧ ((b.length : Int) == 0) = false) := by
        rcases h1 with h1 | h1
        · left; exact ⟨by simp [h1], List.eq_nil_of_length_eq_zero h1, by simp [h1]⟩
        · right; simp [h1]
      obtain ⟨am, cm, H1⟩ := m_open H
      clear h0 h1
      by_cases hz0 : left = 0
      · subst hz0
        have e1 : spendOk 0 dead = false := by simp [spendOk]
        have e2 : spendLeft 0 dead = 0 := by simp [spendLeft]
        rw [e1, e2, if_neg (by decide)]
        clear e1 e2
        obtain ⟨l1, n1, c1, z1⟩ := Holds.facts (H1)
        rcases hz with ⟨hz, hb, hz3⟩ | ⟨hz, hz2, hb, hz3⟩
        all_goals
          have HB := Hid.mk' hb
          clear hb
          go_enter Try.func102, Try.ntmps102
          go_wp2_with fail
          refine (is_spec H HS.out hl9).mono ?_
          rintro e w1 ⟨rfl, rfl⟩
          rw [t0]
          go_wp2_with fail
          go_ret
          exact ⟨rfl, m_shut (H1.set 2 (.bool true))⟩
      · have tz : (left == 0) = false := by simpa using hz0
        cases dead with
        | true =>
          have e1 : spendOk left true = false := by simp [spendOk]
          have e2 : spendLeft left true = left := by simp [spendLeft, e1]
          rw [e1, e2, if_neg (by decide)]
          clear e1 e2
          obtain ⟨l1, n1, c1, z1⟩ := Holds.facts (H1)
          rcases hz with ⟨hz, hb, hz3⟩ | ⟨hz, hz2, hb, hz3⟩
          all_goals
            have HB := Hid.mk' hb
            clear hb
            go_enter Try.func102, Try.ntmps102
            go_wp2_with fail
            refine (is_spec H HS.out hl9).mono ?_
            rintro e w1 ⟨rfl, rfl⟩
            rw [t0]
            go_wp2_with fail
            go_ret
            exact ⟨rfl, m_shut H1⟩
        | false =>
          have e1 : spendOk left false = true := by simp [spendOk, hz0]
          rw [e1, if_pos rfl]
          have hcase : ∃ left2, spendLeft left false = left2 ∧ ((0 < left ∧ left2 = left - 1 ∧ decide (0 < left) = true) ∨ (left2 = left ∧ decide (0 < left) = false)) := by
            refine ⟨_, rfl, ?_⟩
            by_cases h1 : 0 < left
            · left; exact ⟨h1, by simp [spendLeft, e1, h1], by simpa using h1⟩
            · right; exact ⟨by simp [spendLeft, h1], by simpa using h1⟩
          obtain ⟨left2, hl2, hcase⟩ := hcase
          rw [hl2]
          have H2 : Hid (0 < left → Holds (w.setCell ⟨p, 1, none⟩ (.int .i64 (left - 1))) R (star (mS p S (left - 1) false) L)) := Hid.mk' fun _ => m_shut (H1.set 1 (.int .i64 (left - 1)))
          clear e1 hl2
          obtain ⟨l1, n1, c1, z1⟩ := Holds.facts (H1)
          rcases hcase with ⟨h1, rfl, tl⟩ | ⟨rfl, tl⟩
          · rcases hz with ⟨hz, hb, hz3⟩ | ⟨hz, hz2, hb, hz3⟩
            · have HB := Hid.mk' hb
              clear hb
              go_enter Try.func102, Try.ntmps102
              go_wp2_with fail
              refine (is_spec H HS.out hl9).mono ?_
              rintro e w1 ⟨rfl, rfl⟩
              rw [t0]
              go_wp2_with (with_reducible refine stop_make ?_)
              refine Hold.go (wpList_makeB (n := 64) rfl _ _ rfl rfl rfl (H2.out h1) (by decide) ?_)
              intro v3 w3 H3
              obtain ⟨R4, le4, H4, hr4⟩ := H3.freezeRow
              go_wp2_with fail
              refine (mset_spec H4 HS.out hl9 hk hr4 (by simp)).mono ?_
              rintro e w5 ⟨rfl, H5⟩
              go_wp2_with fail
              go_ret
              refine ⟨rfl, ?_⟩
              rw [show pad64 b = List.replicate 64 0 from by rw [HB.out]; rfl]
              exact H5.weaken le4
            · have HB := Hid.mk' hb
              clear hb
              go_enter Try.func102, Try.ntmps102
              go_wp2_with fail
              refine (is_spec H HS.out hl9).mono ?_
              rintro e w1 ⟨rfl, rfl⟩
              rw [t0]
              go_wp2_with fail
              refine (mset_spec (H2.out h1) HS.out hl9 hk hr0 HB.out).mono ?_
              rintro e w5 ⟨rfl, H5⟩
              go_wp2_with fail
              go_ret
              refine ⟨rfl, ?_⟩
              rw [show pad64 b = b from by have := HB.out; rw [pad64, List.take_of_length_le (by omega), List.drop_of_length_le (by simp; omega), List.append_nil]]
              exact H5
          · rcases hz with ⟨hz, hb, hz3⟩ | ⟨hz, hz2, hb, hz3⟩
            · have HB := Hid.mk' hb
              clear hb
              go_enter Try.func102, Try.ntmps102
              go_wp2_with fail
              refine (is_spec H HS.out hl9).mono ?_
              rintro e w1 ⟨rfl, rfl⟩
              rw [t0]
              go_wp2_with (with_reducible refine stop_make ?_)
              refine Hold.go (wpList_makeB (n := 64) rfl _ _ rfl rfl rfl H (by decide) ?_)
              intro v3 w3 H3
              obtain ⟨R4, le4, H4, hr4⟩ := H3.freezeRow
              go_wp2_with fail
              refine (mset_spec H4 HS.out hl9 hk hr4 (by simp)).mono ?_
              rintro e w5 ⟨rfl, H5⟩
              go_wp2_with fail
              go_ret
              refine ⟨rfl, ?_⟩
              rw [show pad64 b = List.replicate 64 0 from by rw [HB.out]; rfl]
              exact H5.weaken le4
            · have HB := Hid.mk' hb
              clear hb
              go_enter Try.func102, Try.ntmps102
              go_wp2_with fail
              refine (is_spec H HS.out hl9).mono ?_
              rintro e w1 ⟨rfl, rfl⟩
              rw [t0]
              go_wp2_with fail
              refine (mset_spec H HS.out hl9 hk hr0 HB.out).mono ?_
              rintro e w5 ⟨rfl, H5⟩
              go_wp2_with fail
              go_ret
              refine ⟨rfl, ?_⟩
              rw [show pad64 b = b from by have := HB.out; rw [pad64, List.take_of_length_le (by omega), List.drop_of_length_le (by simp; omega), List.append_nil]]
              exact H5
    · have e0 : wFit S.length i b = false := by simp only [wFit, decide_eq_false_iff_not]; exact fun h => h1 h.2
      have e1 : wOk S.length left dead i b = false := by simp [wOk, e0]
      simp only [wS, wLeft, wDead, e1, e0, if_false, Bool.false_eq_true]
      have h2 : b.length ≠ 0 ∧ b.length ≠ 64 := ⟨fun h => h1 (.inl h), fun h => h1 (.inr h)⟩
      have hz : ((b.length : Int) != 0) = true := by rw [bne_iff_ne]; omega
      have hz2 : ((b.length : Int) != 64) = true := by rw [bne_iff_ne]; omega
      clear e0 e1
      go_enter Try.func102, Try.ntmps102
      go_wp2_with fail
      refine (is_spec H HS.out hl9).mono ?_
      rintro e w1 ⟨rfl, rfl⟩
      rw [t0]
      go_wp2_with fail
      go_ret
      exact ⟨rfl, H⟩
  · have t0 : decide (0 ≤ i ∧ i < S.length) = false := by simpa using h0
    have e0 : wFit S.length i b = false := by simp only [wFit, decide_eq_false_iff_not]; exact fun h => h0 h.1
    have e1 : wOk S.length left dead i b = false := by simp [wOk, e0]
    simp only [wS, wLeft, wDead, e1, e0, if_false, Bool.false_eq_true]
    clear e0 e1
    go_enter Try.func102, Try.ntmps102
    go_wp2_with fail
    refine (is_spec H HS.out hl9).mono ?_
    rintro e w1 ⟨rfl, rfl⟩
    rw [t0]
    go_wp2_with fail
    go_ret
    exact ⟨rfl, H⟩
end
end Sh
/- journal: the steps: what they write; put, run. -/
set_option linter.unusedVariables false
set_option linter.unusedSimpArgs false
namespace Sh
open Go Go.RowKit Go.Proofs
attribute [local go_sem ↓] Go.wp_at_zero Go.wp_at_succ
set_option maxHeartbeats 1000000
set_option maxRecDepth 100000

/-- A disk's state: sectors, for how many more there is power, and whether it has failed. -/
abbrev DSt := List (List UInt8) × Int × Bool
def wrSt (st : DSt) (c : En) : DSt := (wS st.1 st.2.1 st.2.2 c.1 c.2, wLeft st.1.length st.2.1 st.2.2 c.1 c.2, wDead st.1.length st.2.1 st.2.2 c.1 c.2)
def wrOk (st : DSt) (c : En) : Bool := wOk st.1.length st.2.1 st.2.2 c.1 c.2
def runW : DSt → List En → Bool × DSt
  | st, [] => (true, st)
  | st, c :: l => if wrOk st c = true then runW (wrSt st c) l else (false, wrSt st c)
abbrev dA (p : Nat) (st : DSt) : Asrt := diskS p st.1 st.2.1 st.2.2
def Bd (st : DSt) : Prop := -1 ≤ st.2.1 ∧ st.2.1 ≤ 9223372036854775807
theorem spendBd {left : Int} {dead : Bool} (h : -1 ≤ left ∧ left ≤ 9223372036854775807) : -1 ≤ spendLeft left dead ∧ spendLeft left dead ≤ 9223372036854775807 := by
  unfold spendLeft; split
  · omega
  · exact h
theorem Bd.wr {st : DSt} (h : Bd st) (c : En) : Bd (wrSt st c) := by
  unfold Bd wrSt wLeft
  simp only
  split
  · exact spendBd h
  · exact h
theorem wrSt_len (st : DSt) (c : En) : (wrSt st c).1.length = st.1.length := by
  unfold wrSt wS
  simp only
  split <;> simp
abbrev tDiskP : TypeId := 123
abbrev tStep : TypeId := 213
abbrev tSteps : TypeId := 197
theorem undSteps : Try.prog.underlying tSteps = some (.slice tStep) := Try.underlying197
theorem infoStep : (Try.prog.info? tStep).map (fun i => (i.zero, i.size, i.bytes)) = some (some .nilFunc, 1, 8) := by kernel_rfl
/-- A step's function value: it writes this. -/
def StepV (R : Snap) (p : Nat) (f : Value) (c : En) : Prop := ∃ gd gi v, f = .func (.func 195) #[] #[.pointer (some ⟨gd, 0, none⟩), .pointer (some ⟨gi, 0, none⟩)] ∧ R.blk gd = some (.cells #[.pointer (some ⟨p, 0, none⟩)] tDiskP (0, 0)) ∧ R.blk gi = some (.cells #[.int .i64 c.1, v] tChg (0, 0)) ∧ RdB R.cell? v c.2
theorem StepV.le {R R' : Snap} {p : Nat} {f : Value} {c : En} (h : StepV R p f c) (l : R.le R') : StepV R' p f c := by
  obtain ⟨gd, gi, v, h1, h2, h3, h4⟩ := h
  exact ⟨gd, gi, v, h1, l.blk _ _ h2, l.blk _ _ h3, Rd.le h4 l⟩
def StepsV (R : Snap) (p : Nat) (fs : List Value) (l : List En) : Prop := fs.length = l.length ∧ ∀ i (h : i < fs.length) (h2 : i < l.length), StepV R p fs[i] l[i]
theorem StepsV.le {R R' : Snap} {p : Nat} {fs : List Value} {l : List En} (h : StepsV R p fs l) (k : R.le R') : StepsV R' p fs l := ⟨h.1, fun i h1 h2 => (h.2 i h1 h2).le k⟩
theorem StepsV.nil {R : Snap} {p : Nat} : StepsV R p [] [] := ⟨rfl, fun i h => absurd h (Nat.not_lt_zero i)⟩
theorem StepsV.app {R : Snap} {p : Nat} {fs gs : List Value} {l m : List En} (h : StepsV R p fs l) (k : StepsV R p gs m) : StepsV R p (fs ++ gs) (l ++ m) := by
  refine ⟨by rw [List.length_append, List.length_append, h.1, k.1], fun i h1 h2 => ?_⟩
  by_cases hi : i < fs.length
  · rw [List.getElem_append_left hi, List.getElem_append_left (by rw [← h.1]; exact hi)]
    exact h.2 i hi _
  · rw [List.length_append] at h1 h2
    have e1 := h.1
    have e2 := k.1
    rw [List.getElem_append_right (by omega), List.getElem_append_right (by omega)]
    have := k.2 (i - fs.length) (by omega) (by omega)
    simpa [h.1] using this
theorem StepsV.one {R : Snap} {p : Nat} {f : Value} {c : En} (h : StepV R p f c) : StepsV R p [f] [c] := ⟨rfl, fun i h1 h2 => by
  obtain rfl : i = 0 := by simp at h1; omega
  exact h⟩
theorem StepsV.oneCell {R : Snap} {p : Nat} {fs : List Value} {l : List En} (h : StepsV R p fs l) : ∀ x ∈ fs, x.oneCell' = true := by
  intro x hx
  obtain ⟨i, hi, rfl⟩ := List.mem_iff_getElem.1 hx
  obtain ⟨gd, gi, v, h1, _⟩ := h.2 i hi (by rw [← h.1]; exact hi)
  rw [h1]; rfl
theorem put1_spec {w : World} {R : Snap} {L : Asrt} {p gd gi : Nat} {v : Value} {c : En} {st : DSt} (H : Holds w R (star (dA p st) L)) (hb : Bd st) (h1 : R.blk gd = some (.cells #[.pointer (some ⟨p, 0, none⟩)] tDiskP (0, 0))) (h2 : R.blk gi = some (.cells #[.int .i64 c.1, v] tChg (0, 0))) (h3 : RdB R.cell? v c.2) :
    Calls Try.prog 195 #[.pointer (some ⟨gd, 0, none⟩), .pointer (some ⟨gi, 0, none⟩)] w fun e w' => e = .returned (.bool (wrOk st c)) ∧ Holds w' R (star (dA p (wrSt st c)) L) := by
  obtain ⟨a, cap, rfl⟩ := h3.form
  have hlm := h3.max
  unfold maxLen at hlm
  obtain ⟨l, hl⟩ : ∃ l, l = c.2.length := ⟨_, rfl⟩
  have H3 : Hid (RdB R.cell? (.slice a l cap) c.2) := Hid.mk' (by rw [hl]; exact h3)
  rw [← hl] at h2 hlm
  clear h3 hl
  obtain ⟨l1, n1, c1⟩ := Holds.frzFacts (H) h1
  obtain ⟨l2, n2, c2⟩ := Holds.frzFacts (H) h2
  go_enter Try.func195, Try.ntmps195
  go_wp2_with fail
  refine (dwrite_spec H H3.out hb).mono ?_
  rintro e w2 ⟨rfl, H2⟩
  go_wp2_with fail
  go_ret
  exact ⟨rfl, H2⟩
end Sh
/- journal.put, run. -/
set_option linter.unusedVariables false
set_option linter.unusedSimpArgs false
namespace Sh
open Go Go.RowKit Go.Proofs
attribute [local go_sem ↓] Go.wp_at_zero Go.wp_at_succ
set_option maxHeartbeats 1000000
set_option maxRecDepth 100000

theorem runW_cons_yes {st : DSt} {c : En} {l : List En} (h : wrOk st c = true) : runW st (c :: l) = runW (wrSt st c) l := by rw [runW, if_pos h]
theorem runW_cons_no {st : DSt} {c : En} {l : List En} (h : wrOk st c = false) : runW st (c :: l) = (false, wrSt st c) := by rw [runW, if_neg (by rw [h]; decide)]
set_option maxHeartbeats 2000000
theorem jput_spec {w : World} {R : Snap} {L : Asrt} {p : Nat} {v : Value} {cs : List Ch} (H : Holds w R L) (hr : RdC R.cell? v cs) (hn : cs.length ≤ 10000) :
    Calls Try.prog 165 #[.pointer (some ⟨p, 0, none⟩), v] w fun e w' => ∃ (R' : Snap) (o : Value) (fs : List Value), R.le R' ∧ e = .returned o ∧ StepsV R' p fs (conC cs) ∧ Holds w' R' (star (row tStep 1 o fs.length fs) L) := by
  obtain ⟨a, c, rfl⟩ := hr.form
  obtain ⟨n, hnn⟩ : ∃ n, n = cs.length := ⟨_, rfl⟩
  obtain ⟨E, hE⟩ : ∃ E, E = conC cs := ⟨_, rfl⟩
  have HN := Hid.mk' hnn
  have HR : Hid (RdC R.cell? (.slice a n c) cs) := Hid.mk' (by rw [hnn]; exact hr)
  have HEL : Hid (E.length = n) := Hid.mk' (by rw [hE, conC_len, hnn])
  have HEG : Hid (∀ j (h : j < cs.length) (h2 : j < E.length), E[j] = (cs[j].at_, cs[j].data)) := Hid.mk' (fun j h h2 => by
    have := conC_get h
    rw [← hE, List.getElem?_eq_getElem h2] at this
    exact Option.some.inj this)
  obtain ⟨R1, le1, H1, hb1⟩ := H.allocR (.cells #[.pointer (some ⟨p, 0, none⟩)] tDiskP (0, 0))
  rw [← hE]
  rw [← hnn] at hn ⊢
  clear hr hnn hE H
  go_enter Try.func165, Try.ntmps165
  go_upto_region 1 with fail
  generalize (World.alloc ..) = w1 at H1 ⊢
  generalize w.heap.size = gd at hb1 ⊢
  go_wp2_with fail
  go_loopw [5, 10] (fun o i wx => ∃ (j : Nat) (R' : Snap) (fs : List Value), i = .int .i64 j ∧ j ≤ n ∧ R1.le R' ∧ Hid (StepsV R' p fs (E.take j)) ∧ Holds wx R' (star (row tStep 1 o fs.length fs) L)) (fun _ i _ => n - (intOf i).toNat)
  case atStart => exact ⟨0, R1, [], rfl, Nat.zero_le _, Snap.le.refl _, Hid.mk' StepsV.nil, H1.nilRow _ 1⟩
  case round =>
    clear H1
    obtain ⟨j, R', fs, rfl, hj, le2, hS, H3⟩ := hrel
    obtain ⟨ao, co, rfl⟩ := H3.rowRd.form
    by_cases hlt : j < n
    · have d1 : decide ((j : Int) < (n : Int)) = true := by simp; omega
      have hjs : j < cs.length := by rw [← HN.out]; exact hlt
      have hjE : j < E.length := by rw [HEL.out]; exact hlt
      obtain ⟨b2, o2, rfl, hc0, hc1, hq⟩ := RdC.at HR.out hjs
      have he := HEG.out j hjs hjE
      have HJE := Hid.mk' hjE
      generalize cs[j] = x at *
      obtain ⟨xa, xv, xd⟩ := x
      simp only at hc0 hc1 hq he
      obtain ⟨ax, cx, rfl⟩ := hq.form
      replace hc0 := H3.cell (le1.trans le2 |>.cell hc0)
      replace hc1 := H3.cell (le1.trans le2 |>.cell hc1)
      obtain ⟨l, hl⟩ : ∃ l, l = xd.length := ⟨_, rfl⟩
      have HQ : Hid (RdB R.cell? (.slice ax l cx) xd) := Hid.mk' (by rw [hl]; exact hq)
      rw [← hl] at hc1
      have i1 : (0 : Int) ≤ (j : Int) := by omega
      have i2 : (j : Int) < (n : Int) := by omega
      have hfl : fs.length ≤ 10000 := by rw [hS.out.1, List.length_take, HEL.out]; omega
      obtain ⟨R4, le4, H4, hb4⟩ := H3.allocR (.cells #[.int .i64 xa, .slice ax l cx] tChg (0, 0))
      have HE2 : Hid (∀ h : j < E.length, E[j] = (xa, xd)) := Hid.mk' (fun _ => he)
      clear hq hl hjE he hjs
      go_upto_region 5 with fail
      generalize (World.alloc ..) = w4 at H4 ⊢
      generalize wr.heap.size = gi at hb4 ⊢
      clear H3 hc0 hc1
      go_wp2_with (with_reducible refine stop_append ?_)
      have H5 := H4.alloc #[.func (.func 195) #[] #[.pointer (some ⟨gd, 0, none⟩), .pointer (some ⟨gi, 0, none⟩)]] tStep
      have hr5 := (H5.toRow 1 1 1 (Nat.le_refl _) (by decide) rfl).rowRd
      refine Hold.go (wpList_append rfl _ _ rfl undSteps infoStep rfl (by decide) rfl rfl H5.drop hr5 (by simp [Value.oneCell']) (by simp only [maxLen]; omega) (by omega) ?_)
      intro v6 w6 H6
      clear H4 H5 hr5
      go_wp2_with fail
      go_roundw
      case rel =>
        refine ⟨j + 1, R4, fs ++ [.func (.func 195) #[] #[.pointer (some ⟨gd, 0, none⟩), .pointer (some ⟨gi, 0, none⟩)]], by go_num, hlt, le2.trans le4, Hid.mk' ?_, ?_⟩
        · rw [List.take_succ_eq_append_getElem HJE.out, HE2.out]
          exact (hS.out.le le4).app (StepsV.one ⟨gd, gi, .slice ax l cx, rfl, (le2.trans le4).blk _ _ hb1, hb4, Rd.le HQ.out (le1.trans (le2.trans le4))⟩)
        · rw [List.length_append]
          exact H6
      case measure => simp [intOf]; omega
    · have d1 : decide ((j : Int) < (n : Int)) = false := by simp; omega
      obtain rfl : j = n := by omega
      go_wp2_with fail
      go_ret
      have h := hS.out
      rw [List.take_of_length_le (by rw [HEL.out]; exact Nat.le_refl _)] at h
      exact ⟨R', _, fs, le1.trans le2, rfl, h, H3⟩
def errOf (b : Bool) : Int := if b = true then 0 else 15
theorem jrun_spec {w : World} {R : Snap} {L : Asrt} {p : Nat} {v : Value} {fs : List Value} {l : List En} {st : DSt} (H : Holds w R (star (dA p st) L)) (hb : Bd st) (hf : Rd R.cell? 1 v fs.length fs) (hs : StepsV R p fs l) :
    Calls Try.prog 166 #[v] w fun e w' => e = .returned (.int .i64 (errOf (runW st l).1)) ∧ Holds w' R (star (dA p (runW st l).2) L) := by
  obtain ⟨a, c, rfl⟩ := Rd.form hf
  have hmx := Rd.max hf
  unfold maxLen at hmx
  obtain ⟨n, hn⟩ : ∃ n, n = fs.length := ⟨_, rfl⟩
  obtain ⟨X, hX⟩ : ∃ X, X = runW st l := ⟨_, rfl⟩
  have HF : Hid (Rd R.cell? 1 (.slice a n c) n fs) := Hid.mk' (by rw [hn]; exact hf)
  have HN := Hid.mk' hn
  have HS := Hid.mk' hs
  have HX := Hid.mk' hX
  have HB := Hid.mk' hb
  rw [← hX]
  rw [← hn] at hmx ⊢
  clear hf hn hs hX hb
  go_enter Try.func166, Try.ntmps166
  go_wp2_with fail
  go_step3
  go_wp2_with fail
  go_step3
  go_wp2_with fail
  go_loopw [7] (fun i wx => ∃ (j : Nat) (st' : DSt), i = .int .i64 j ∧ j ≤ n ∧ Hid (X = runW st' (l.drop j)) ∧ Hid (Bd st') ∧ Holds wx R (star (dA p st') L)) (fun i _ => n - (intOf i).toNat)
  case atStart => exact ⟨0, st, rfl, Nat.zero_le _, Hid.mk' HX.out, HB, H⟩
  case round =>
    clear H
    obtain ⟨j, st', rfl, hj, hA, hBd, H3⟩ := hrel
    by_cases hlt : j < n
    · have d1 : decide ((j : Int) < (n : Int)) = true := by simp; omega
      have hjf : j < fs.length := by rw [← HN.out]; exact hlt
      have hjl : j < l.length := by rw [← HS.out.1]; exact hjf
      obtain ⟨gd, gi, v4, e4, hd4, hi4, hr4⟩ := HS.out.2 j hjf hjl
      obtain ⟨b1, o1, rfl, hc⟩ := Rd.open HF.out (by omega)
      have hc := H3.cell (hc j _ (List.getElem?_eq_getElem hjf))
      rw [e4] at hc
      have i1 : (0 : Int) ≤ (j : Int) := by omega
      have i2 : (j : Int) < (n : Int) := by omega
      have hdr : l.drop j = l[j] :: l.drop (j + 1) := List.drop_eq_getElem_cons hjl
      have HDR := Hid.mk' hdr
      have HD4 := Hid.mk' hd4
      have HI4 := Hid.mk' hi4
      have HR4 := Hid.mk' hr4
      clear e4 hd4 hi4 hr4 hdr hjf
      go_wp2_with fail
      refine (put1_spec H3 hBd.out HD4.out HI4.out HR4.out).mono ?_
      rintro e w5 ⟨rfl, H5⟩
      obtain ⟨ok, hok⟩ : ∃ ok, wrOk st' l[j] = ok := ⟨_, rfl⟩
      rw [hok]
      have HOK := Hid.mk' hok
      clear H3 hc hok
      cases ok with
      | true =>
        go_wp2_with fail
        go_roundw
        case rel => exact ⟨j + 1, wrSt st' l[j], by go_num, hlt, Hid.mk' (by rw [hA.out, HDR.out, runW_cons_yes HOK.out]), Hid.mk' (hBd.out.wr _), H5⟩
        case measure => simp [intOf]; omega
      | false =>
        have HXX : Hid (X = (false, wrSt st' l[j])) := Hid.mk' (by rw [hA.out, HDR.out, runW_cons_no HOK.out])
        go_wp2_with fail
        try rw [Exit.noGoto_ret]
        go_ret
        rw [HXX.out]
        exact ⟨rfl, H5⟩
    · have d1 : decide ((j : Int) < (n : Int)) = false := by simp; omega
      obtain rfl : j = n := by omega
      have HXX : Hid (X = (true, st')) := Hid.mk' (by
        rw [hA.out, List.drop_of_length_le (by rw [← HS.out.1, ← HN.out]; exact Nat.le_refl _)]; rfl)
      go_wp2_with fail
      try rw [Exit.noGoto_ret]
      go_ret
      rw [HXX.out]
      exact ⟨rfl, H3⟩
end Sh
/- sector's contracts: Seal, Open, Clear. -/
set_option linter.unusedVariables false
set_option linter.unusedSimpArgs false
namespace Sh
open Go Go.RowKit Go.Proofs
attribute [local go_sem ↓] Go.wp_at_zero Go.wp_at_succ
set_option maxHeartbeats 1000000
set_option maxRecDepth 100000

theorem stop_load {P : Program} {ops : Array Oper} {Q : Exit → Act → World → Prop} {d : Option Tmp} {x : Operand} {t ty : TypeId} {pos : String} {af : Array Edge} {g : Option (Nat × Bool)} {rest : List Oper} {a : Act} {w : World}
    (h : Hold (wpList P ops Q (⟨d, .load t x, ty, pos, af, g⟩ :: rest) a w)) : wpList P ops Q (⟨d, .load t x, ty, pos, af, g⟩ :: rest) a w := h
theorem wpList_wanted {P : Program} {ops : Array Oper} {Q : Exit → Act → World → Prop} {o : Oper} {rest : List Oper} {a : Act} {w : World} (hw : Region.wanted o (yielded ops a.tmps) = true)
    (h : ∀ K : Act → World → Prop, (∀ a w, wpList P ops Q rest a w → K a w) → o.wp P a w K Q) : wpList P ops Q (o :: rest) a w :=
  wpList_step fun K hK => by rw [if_pos hw]; exact h K hK
theorem wp_copy_own {P : Program} {w : World} {o : Oper} {a : Act} {K : Act → World → Prop} {Q : Exit → Act → World → Prop} (d s : Operand) (dT sT : TypeId)
    (ho : o.op = .call { callee := .builtin .copy, args := #[d, s], argTypes := #[dT, sT] }) (elem : TypeId) (hu : P.underlying dT = some (.slice elem)) (hsz : (P.info? elem).map (·.size) = some 1)
    (g off dLen dCap : Nat) (ad : Addr) (sLen sCap : Nat) (hd : a.eval d = .slice (some ⟨g, off, none⟩) dLen dCap) (hs : a.eval s = .slice (some ad) sLen sCap)
    (cur : Array Value) (t : TypeId) (hg : w.heap[g]? = some (.cells cur t (0, 0))) (cs : List Value) (hn : cs.length = Nat.min sLen dLen)
    (hsrc : ∀ j v, cs[j]? = some v → w.cell? (ad.add j) = some v) (hfit : off + cs.length ≤ cur.size) (h1 : ∀ v ∈ cs, v.oneCell' = true)
    (h : K (a.put o.dst (goInt cs.length)) (w.setRow g (cur.toList.take off ++ (cs ++ cur.toList.drop (off + cs.length))).toArray)) : o.wp P a w K Q := by
  have hrun := run_copy_row (P := P) w dT sT o.type elem g off dLen dCap ad sLen sCap cur t cs hu hsz hg hn hsrc hfit h1
  unfold Oper.wp
  simp [execOp, ho, resolve, invoke, builtin, hd, hs, hrun, Result.andThen]
  exact h
theorem Holds.blkAll {w : World} {R : Snap} {L : Asrt} {b : Nat} {cs cs2 : Array Value} {t : TypeId} (H : Holds w R (star (Sh.blk b cs t) L)) : Holds (w.setRow b cs2) R (star (Sh.blk b cs2 t) L) := by
  obtain ⟨F, ⟨hF, hF'⟩, k⟩ := H.upd
  exact k _ _ F ⟨setRow_heap w b cs cs2 t _ hF, hF'⟩ rfl rfl rfl (fun i hi hn => setRow_other w b i cs2 (fun h => hn ((hF' i).2 h))) (fun i hi => .inl hi)

theorem stop_eqlArr {P : Program} {ops : Array Oper} {Q : Exit → Act → World → Prop} {d : Option Tmp} {x y : Operand} {t2 ty : TypeId} {pos : String} {af : Array Edge} {g : Option (Nat × Bool)} {rest : List Oper} {a : Act} {w : World}
    (h : Hold (wpList P ops Q (⟨d, .binOp .eql 214 x y t2, ty, pos, af, g⟩ :: rest) a w)) : wpList P ops Q (⟨d, .binOp .eql 214 x y t2, ty, pos, af, g⟩ :: rest) a w := h
abbrev tSec : TypeId := 214
theorem wp_eqlArr {w : World} {o : Oper} {a : Act} {K : Act → World → Prop} {Q : Exit → Act → World → Prop} (x y : Operand) (t2 : TypeId) (ho : o.op = .binOp .eql tSec x y t2) (l k : List UInt8) (hl : l.length = 64) (hk : k.length = 64)
    (hx : a.eval x = .agg (u8s l).toArray) (hy : a.eval y = .agg (u8s k).toArray) (h : K (a.put o.dst (.bool (l == k))) w) : o.wp Try.prog a w K Q := by
  have h1 := run_eql_bytes (P := Try.prog) w tSec tU8 64 Try.underlying214 Try.underlying5 (fun w => by kernel_rfl) l k hl hk
  have h2 := run_eqGuard_agg (P := Try.prog) w .eql tSec x y (u8s l).toArray (u8s k).toArray Try.eqGuardType214
  have e : ∀ l : List UInt8, l.map Extern.Stop.cell = u8s l := fun l => rfl
  rw [e, e] at h1
  unfold Oper.wp execOp
  simp only [ho, hx, hy, Sem.run_bind, h2, h1, Result.andThen_ok]
  exact h
def clearB (b : List UInt8) : Bool := decide (b = List.replicate 64 0)
theorem sclear_spec {w : World} {R : Snap} {L : Asrt} {v : Value} {b : List UInt8} (H : Holds w R L) (hr : RdB w.cell? v b) :
    Calls Try.prog 170 #[v] w fun e w' => e = .returned (.bool (clearB b)) ∧ Holds w' R L := by
  obtain ⟨a, c, rfl⟩ := hr.form
  by_cases h64 : b.length = 64
  · have t1 : ((b.length : Int) == 64) = true := by simp [h64]
    go_enter Try.func170, Try.ntmps170
    go_wp2_with (first | (with_reducible refine stop_copy ?_) | (with_reducible refine stop_load ?_))
    generalize hw1 : World.alloc w _ = w1
    have H1 : Holds w1 R (star (blk w.heap.size (u8s (List.replicate 64 0)).toArray tSec) L) := by rw [← hw1]; exact H.alloc (u8s (List.replicate 64 0)).toArray tSec
    have hr1 : RdB w1.cell? (.slice a b.length c) b := by rw [← hw1]; exact hr.below ((Below.refl w.heap.size w).alloc (Nat.le_refl _) _)
    obtain ⟨b1, o1, rfl, hc⟩ := RdB.open hr1 (by omega)
    generalize w.heap.size = g at H1 ⊢
    clear hw1 hr1 hr H
    refine Hold.go (wpList_wanted (by rfl) fun K hK => wp_copy_own _ _ _ _ rfl tU8 undBytes sizeU8 g 0 64 64 ⟨b1, o1, none⟩ _ _ rfl rfl _ tSec H1.blkAt (u8s b) (by rw [u8s_length, h64]; rfl) ?_ (by rw [u8s_length, h64]; decide) (u8s_one _) ?_)
    · intro j x hx
      rw [add_plain]
      have hj : j < b.length := by
        have := (List.getElem?_eq_some_iff.1 hx).1
        rwa [u8s_length] at this
      rw [u8s_get _ _ hj, Option.some.injEq] at hx
      subst hx
      exact hc j hj
    · refine hK _ _ ?_
      have H2 := H1.blkAll (cs2 := ((u8s (List.replicate 64 0)).toArray.toList.take 0 ++ (u8s b ++ (u8s (List.replicate 64 0)).toArray.toList.drop (0 + (u8s b).length))).toArray)
      rw [show ((u8s (List.replicate 64 0)).toArray.toList.take 0 ++ (u8s b ++ (u8s (List.replicate 64 0)).toArray.toList.drop (0 + (u8s b).length))) = u8s b from by rw [List.take_zero, List.nil_append, List.drop_of_length_le (by simp [h64]), List.append_nil]] at H2 ⊢
      generalize World.setRow .. = w2 at H2 ⊢
      have e3 : (goInt (u8s b).length) = .int .i64 64 := by rw [u8s_length, h64]; rfl
      rw [e3]
      go_wp2_with (with_reducible refine stop_load ?_)
      refine Hold.go (wpList_wanted (by rfl) fun K hK => wp_load_row tSec _ rfl g rfl tSec _ (0, 0) _ H2.blkAt Try.underlying214 rfl (by rw [List.size_toArray, u8s_length, h64]; kernel_rfl) (hK _ _ ?_))
      clear hc H1
      go_wp2_with (with_reducible refine stop_eqlArr ?_)
      refine Hold.go (wpList_wanted (by rfl) fun K hK => wp_eqlArr _ _ _ rfl b (List.replicate 64 0) h64 (by simp) rfl rfl (hK _ _ ?_))
      go_wp2_with fail
      go_ret
      exact ⟨ret_bool (by rw [clearB, Bool.eq_iff_iff]; simp), H2.drop⟩
  · have t1 : ((b.length : Int) == 64) = false := by simp; omega
    have e1 : clearB b = false := by
      rw [clearB, decide_eq_false_iff_not]
      intro h; rw [h] at h64; simp at h64
    rw [e1]
    clear e1
    go_enter Try.func170, Try.ntmps170
    go_wp2_with fail
    go_ret
    exact ⟨rfl, H.garbage _⟩

def padTo60 (p : List UInt8) : List UInt8 := p.take 60 ++ (List.replicate 60 0).drop p.length
def sealS (p : List UInt8) : List UInt8 := if p.length ≤ 60 then sealB (padTo60 p) else []
theorem padTo60_len {p : List UInt8} (h : p.length ≤ 60) : (padTo60 p).length = 60 := by simp [padTo60]; omega
theorem sealS_len {p : List UInt8} (h : p.length ≤ 60) : (sealS p).length = 64 := by simp [sealS, h, sealB, padTo60_len h, fourB_length]
theorem sealS_len_le (p : List UInt8) : (sealS p).length ≤ 64 := by
  by_cases h : p.length ≤ 60
  · rw [sealS_len h]; decide
  · simp [sealS, h]
theorem sseal_spec {w : World} {R : Snap} {L : Asrt} {pt : Nat} {v : Value} {p : List UInt8} (H : Holds w R L) (hT : R.blk pt = some (.cells (rowC 256) tabT (0, 0))) (hr : RdB R.cell? v p) :
    Calls Try.prog 142 #[.pointer (some ⟨pt, 0, none⟩), v] w fun e w' => ∃ o, e = .returned o ∧ Holds w' R (star (rowB o (sealS p)) L) := by
  have hr0 := hr
  obtain ⟨a, c, rfl⟩ := hr.form
  by_cases h60 : p.length ≤ 60
  · have e1 : sealS p = sealB (padTo60 p) := by simp [sealS, h60]
    rw [e1]
    have hpl := padTo60_len h60
    have t1 : decide ((60 : Int) < p.length) = false := by simp; omega
    clear e1
    go_enter Try.func142, Try.ntmps142
    go_wp2_with (with_reducible refine stop_make ?_)
    refine Hold.go (wpList_makeB (n := 60) rfl _ _ rfl rfl rfl H (by decide) ?_)
    intro v1 w1 H1
    go_wp2_with (with_reducible refine stop_copy ?_)
    refine Hold.go (wpList_copyB rfl _ _ rfl rfl rfl H1 (hr0.world H1) ?_)
    intro w2 H2
    obtain ⟨R3, le3, H3, hr3⟩ := H2.freezeRow
    rw [List.length_replicate] at hr3
    clear H1 H2
    go_wp2_with fail
    refine (seal_crc (b := padTo60 p) H3 (le3.blk _ _ hT) hr3 (by omega)).mono ?_
    rintro e w4 ⟨o4, rfl, H4⟩
    go_wp2_with fail
    go_ret
    exact ⟨_, rfl, H4.weaken le3⟩
  · have e1 : sealS p = [] := by simp [sealS, h60]
    rw [e1]
    have t1 : decide ((60 : Int) < p.length) = true := by simp; omega
    clear e1
    go_enter Try.func142, Try.ntmps142
    go_wp2_with fail
    go_ret
    exact ⟨_, rfl, H.nilRow _ 1⟩
def openOk (b : List UInt8) : Bool := decide (b.length = 64) && goodB b
def openP (b : List UInt8) : List UInt8 := if openOk b = true then b.take 60 else []
theorem openP_len (b : List UInt8) : (openP b).length ≤ 60 := by unfold openP; split <;> simp; omega
theorem sopen_spec {w : World} {R : Snap} {L : Asrt} {pt : Nat} {v : Value} {b : List UInt8} (H : Holds w R L) (hT : R.blk pt = some (.cells (rowC 256) tabT (0, 0))) (hr : RdB R.cell? v b) :
    Calls Try.prog 147 #[.pointer (some ⟨pt, 0, none⟩), v] w fun e w' => ∃ o, e = .returned (.tuple #[o, .bool (openOk b)]) ∧ Holds w' R (star (rowB o (openP b)) L) := by
  have hr0 := hr
  obtain ⟨a, c, rfl⟩ := hr.form
  by_cases h64 : b.length = 64
  · have t1 : ((b.length : Int) != 64) = false := by simp [h64]
    have e0 : openOk b = goodB b := by simp [openOk, h64]
    have e1 : openP b = if goodB b = true then b.take 60 else [] := by rw [openP, e0]
    rw [e0, e1]
    have hb : b.length ≤ 1000000 := by omega
    have hB := hr0.bounds
    have i1 : (60 : Int) ≤ c := by omega
    have hpre := RdB.pre hr0 60 (by omega)
    have hp6 : (b.take 60).length ≤ 60 := by simp; omega
    clear e0 e1 h64 hB
    have hgood := good_crc H hT hr0 hb
    cases hg : goodB b with
    | true =>
      rw [hg] at hgood
      rw [if_pos rfl]
      clear hg
      go_enter Try.func147, Try.ntmps147
      go_wp2_with (with_reducible refine stop_append ?_)
      refine hgood.mono ?_
      rintro e w1 ⟨rfl, H1⟩
      go_wp2_with (with_reducible refine stop_append ?_)
      refine Hold.go (wpList_appendB rfl _ _ rfl rfl rfl (freshB H1) (hpre.world (H1.garbage _)) (by simp only [List.length_nil]; omega) ?_)
      intro v2 w2 H2
      go_wp2_with fail
      go_ret2
      exact ⟨_, rfl, H2⟩
    | false =>
      rw [hg] at hgood
      rw [if_neg (by decide)]
      clear hg
      go_enter Try.func147, Try.ntmps147
      go_wp2_with fail
      refine hgood.mono ?_
      rintro e w1 ⟨rfl, H1⟩
      go_wp2_with fail
      go_ret2
      exact ⟨_, rfl, H1.nilRow _ 1⟩
  · have t1 : ((b.length : Int) != 64) = true := by rw [bne_iff_ne]; omega
    have e0 : openOk b = false := by simp [openOk, h64]
    have e1 : openP b = [] := by simp [openP, e0]
    rw [e0, e1]
    clear e0 e1
    go_enter Try.func147, Try.ntmps147
    go_wp2_with fail
    go_ret2
    exact ⟨_, rfl, H.nilRow _ 1⟩
end Sh
/- journal.there, sectors, Clean. -/
set_option linter.unusedVariables false
set_option linter.unusedSimpArgs false
namespace Sh
open Go Go.RowKit Go.Proofs
attribute [local go_sem ↓] Go.wp_at_zero Go.wp_at_succ
set_option maxHeartbeats 1000000
set_option maxRecDepth 100000

theorem all_not' {α : Type} {p : α → Bool} {l : List α} {j : Nat} (h : j < l.length) (hx : p l[j] = false) : l.all p = false := by
  rw [List.all_eq_false]
  exact ⟨l[j], List.getElem_mem h, by rw [hx]; decide⟩
def thereC (n : Nat) (l : List En) : Bool := l.all (fun c => decide (c.1 < (n : Int))) && decide (34 ≤ n)
theorem jthere_spec {w : World} {R : Snap} {L : Asrt} {p : Nat} {st : DSt} {v : Value} {cs : List Ch} (H : Holds w R (star (dA p st) L)) (hr : RdC R.cell? v cs) (hn : cs.length ≤ 10000) (hS : st.1.length ≤ 1000) :
    Calls Try.prog 164 #[.pointer (some ⟨p, 0, none⟩), v] w fun e w' => e = .returned (.bool (thereC st.1.length (conC cs))) ∧ Holds w' R (star (dA p st) L) := by
  obtain ⟨a, c, rfl⟩ := hr.form
  obtain ⟨n, hnn⟩ : ∃ n, n = cs.length := ⟨_, rfl⟩
  obtain ⟨E, hE⟩ : ∃ E, E = conC cs := ⟨_, rfl⟩
  have HN := Hid.mk' hnn
  have HR : Hid (RdC R.cell? (.slice a n c) cs) := Hid.mk' (by rw [hnn]; exact hr)
  have HEL : Hid (E.length = n) := Hid.mk' (by rw [hE, conC_len, hnn])
  have HEG : Hid (∀ j (h : j < cs.length) (h2 : j < E.length), E[j] = (cs[j].at_, cs[j].data)) := Hid.mk' (fun j h h2 => by
    have := conC_get h
    rw [← hE, List.getElem?_eq_getElem h2] at this
    exact Option.some.inj this)
  obtain ⟨y, hy⟩ : ∃ y, y = thereC st.1.length E := ⟨_, rfl⟩
  have HY := Hid.mk' hy
  rw [← hE, ← hy]
  rw [← hnn] at hn ⊢
  obtain ⟨N, hN⟩ : ∃ N, N = st.1.length := ⟨_, rfl⟩
  have HNN := Hid.mk' hN
  rw [← hN] at HY hS
  have HSP : Hid (∀ w' (h : Holds w' R (star (dA p st) L)), Calls Try.prog 94 #[.pointer (some ⟨p, 0, none⟩)] w' fun e w2 => e = .returned (.int .i64 (N : Int)) ∧ ∃ q, w2 = w'.drewN q) := Hid.mk' (fun w' h => (size_spec h).mono (fun e w2 h3 => ⟨by rw [h3.1, hN], 0, by rw [← h3.2]; rfl⟩))
  clear hr hnn hE hy hN
  go_enter Try.func164, Try.ntmps164
  go_wp2_with fail
  go_loopw [9] (fun i wx => ∃ (j : Nat), i = .int .i64 j ∧ j ≤ n ∧ Hid ((E.take j).all (fun c => decide (c.1 < (N : Int))) = true) ∧ Holds wx R (star (dA p st) L)) (fun i _ => n - (intOf i).toNat)
  case atStart => exact ⟨0, rfl, Nat.zero_le _, Hid.mk' rfl, H⟩
  case round =>
    clear H
    obtain ⟨j, rfl, hj, hA, H3⟩ := hrel
    by_cases hlt : j < n
    · have d1 : decide ((j : Int) < (n : Int)) = true := by simp; omega
      have hjs : j < cs.length := by rw [← HN.out]; exact hlt
      have hjE : j < E.length := by rw [HEL.out]; exact hlt
      obtain ⟨b2, o2, rfl, hc0, hc1, hq⟩ := RdC.at HR.out hjs
      have he := HEG.out j hjs hjE
      have HJE := Hid.mk' hjE
      generalize cs[j] = x at *
      obtain ⟨xa, xv, xd⟩ := x
      simp only at hc0 hc1 hq he
      obtain ⟨ax, cx, rfl⟩ := hq.form
      replace hc0 := H3.cell hc0
      replace hc1 := H3.cell hc1
      obtain ⟨l, hl⟩ : ∃ l, l = xd.length := ⟨_, rfl⟩
      rw [← hl] at hc1
      have i1 : (0 : Int) ≤ (j : Int) := by omega
      have i2 : (j : Int) < (n : Int) := by omega
      have HE2 : Hid (∀ h : j < E.length, E[j] = (xa, xd)) := Hid.mk' (fun _ => he)
      obtain ⟨R4, le4, H4, hb4⟩ := H3.allocR (.cells #[.int .i64 xa, .slice ax l cx] tChg (0, 0))
      clear hq hl hjE he hjs
      go_upto_region 4 with fail
      generalize (World.alloc ..) = w4 at H4 ⊢
      generalize wr.heap.size = gi at hb4 ⊢
      clear H3 hc0 hc1
      obtain ⟨l1, n1, c1⟩ := Holds.frzFacts (H4) hb4
      go_quiet ((go_at_call 94; exact Calls.quiet_of (HSP.out _ ((H4.weaken le4).drewN _))))
      have H5 := (H4.weaken le4).drewN nq
      clear H4 l1 n1 c1
      generalize (World.drewN _ _) = w5 at H5 ⊢
      by_cases hat : (N : Int) ≤ xa
      · rw [decide_eq_true hat]
        have HYY : Hid (y = false) := Hid.mk' (by
          rw [HY.out, thereC, all_not' HJE.out (by rw [HE2.out]; simp; omega)]; rfl)
        clear hat
        go_wp2_with fail
        go_ret
        exact ⟨ret_bool HYY.out.symm, H5⟩
      · rw [decide_eq_false hat]
        have HX := Hid.mk' hat
        clear hat
        go_wp2_with fail
        go_roundw
        case rel =>
          refine ⟨j + 1, by go_num, hlt, Hid.mk' ?_, H5⟩
          rw [List.take_succ_eq_append_getElem HJE.out, List.all_append, hA.out, HE2.out]
          have := HX.out
          simp; omega
        case measure => simp [intOf]; omega
    · have d1 : decide ((j : Int) < (n : Int)) = false := by simp; omega
      obtain rfl : j = n := by omega
      have hA' : E.all (fun c => decide (c.1 < (N : Int))) = true := by have := hA.out; rwa [List.take_of_length_le (by rw [HEL.out]; exact Nat.le_refl _)] at this
      have HYY : Hid (y = decide (34 ≤ N)) := Hid.mk' (by rw [HY.out, thereC, hA', Bool.true_and])
      clear hA hA'
      go_wp2_with fail
      refine (size_spec H3).mono ?_
      rintro e w5 ⟨rfl, rfl⟩
      rw [← HNN.out]
      go_wp2_with fail
      go_ret
      refine ⟨ret_bool ?_, H3⟩
      rw [HYY.out]
      exact decide_eq_decide.2 (by omega)
end Sh
