/- EntChgs EntMath EntRChk EntRPut: joined texts, each with its own sentence below. -/
import Derived.Test.YtmogagcffebbaaaEn15
import Derived.Test.YtmogagcffebbaaaEn11
import Derived.Test.YtmogagcffebbaaaEn4
import Derived.Test.YtmogagcffebbaaaEn7
import Derived.Test.YtmogagcffebbaaaEn12
/- entry.changes. -/
set_option linter.unusedVariables false
set_option linter.unusedSimpArgs false
namespace Sh
open Go Go.RowKit Go.Proofs
attribute [local go_sem ↓] Go.wp_at_zero Go.wp_at_succ
set_option maxHeartbeats 1000000
set_option maxRecDepth 100000

def chs (b : List UInt8) : List En × PSt := chsP (pNum 2 (b, false)).1 (pNum 2 (b, false)).2 []
theorem flat_snoc (cs : List Ch) (x : Ch) : (cs ++ [x]).flatMap Ch.cells = cs.flatMap Ch.cells ++ x.cells := by
  rw [List.flatMap_append]; simp
set_option maxHeartbeats 4000000
theorem changes_spec {w : World} {R : Snap} {L : Asrt} {v : Value} {b : List UInt8} (H : Holds w R L) (hr : RdB R.cell? v b) (hb : b.length ≤ 2950) :
    Calls Try.prog 149 #[v] w fun e w' => ∃ (R' : Snap) (o : Value) (cs : List Ch), R.le R' ∧ e = .returned (.tuple #[o, .bool (!(chs b).2.2 && decide ((chs b).2.1.length = 0))]) ∧ RdC R'.cell? o cs ∧ conC cs = (chs b).1 ∧ SzC cs ∧ Holds w' R' L := by
  obtain ⟨a, c, rfl⟩ := hr.form
  go_enter Try.func149, Try.ntmps149
  go_wp2_with fail
  refine (read_spec H hr).mono ?_
  rintro e w2 ⟨p3, rfl, H2⟩
  go_wp2_with fail
  refine (rd_num (s := (b, false)) (k := 2) (by decide) H2 hr).mono ?_
  rintro e w3 ⟨v3, rfl, H3, hr3⟩
  have hl3 := pNum_le 2 (b, false)
  have hk3 := pNum2_lt (b, false)
  obtain ⟨a1, ha⟩ : ∃ a, a = pNum 2 (b, false) := ⟨_, rfl⟩
  have HCH : Hid (chs b = chsP a1.1 a1.2 []) := Hid.mk' (by rw [ha]; rfl)
  have HEA : Hid (Eaten b.length 0 a1.2) := Hid.mk' ⟨by omega, fun _ => by rw [ha]; have := hl3; simp only at this; omega⟩
  rw [← ha] at H3 hr3 hl3 hk3 ⊢
  simp only at hl3
  obtain ⟨N0, hN0⟩ : ∃ N0, N0 = b.length := ⟨_, rfl⟩
  have HN0 := Hid.mk' hN0
  rw [← hN0] at hb hl3
  clear H2 H hr ha hN0
  go_wp2_with fail
  go_loopw [5, 6] (fun o i wx => ∃ (k : Nat) (s : PSt) (R' : Snap) (cs : List Ch) (v' : Value), i = .int .i64 (k : Int) ∧ k ≤ 65535 ∧ R.le R' ∧ Hid (chs b = chsP k s (conC cs)) ∧ Hid (Eaten b.length cs.length s) ∧ s.1.length ≤ N0 ∧ Hid (∀ x ∈ cs, x.data.length ≤ 64) ∧ Hid (∀ x ∈ cs, RdB R'.cell? x.v x.data) ∧ Hid (RdB R'.cell? v' s.1) ∧ Holds wx R' (star (row tChg 2 o cs.length (cs.flatMap Ch.cells)) (star (blk p3 #[v', .bool s.2] rdrT) L))) (fun _ i _ => (intOf i).toNat)
  case atStart => exact ⟨a1.1, a1.2, R, [], v3, rfl, by omega, Snap.le.refl _, HCH, HEA, hl3, Hid.mk' (fun _ h => by cases h), Hid.mk' (fun _ h => by cases h), Hid.mk' hr3, H3.nilRow _ 2⟩
  case round =>
    clear H3 hr3 hl3 hk3 HCH HEA
    obtain ⟨k, s, R4, cs, v4, rfl, hk, le4, hC, hE, hsl, hD, hRD, hR4, H4⟩ := hrel
    obtain ⟨ao, co, rfl⟩ := H4.rowRd.form
    by_cases hk0 : 0 < k
    · have d1 : decide ((0 : Int) < (k : Int)) = true := by simp; omega
      have d1n : decide (0 < k) = true := by simp; omega
      obtain ⟨m, rfl⟩ : ∃ m, k = m + 1 := ⟨k - 1, by omega⟩
      have hcl : cs.length ≤ 985 := by have := hE.out.1; have := HN0.out; omega
      go_wp2_with fail
      refine (rgood_spec H4.swap).mono ?_
      rintro e w5 ⟨rfl, rfl⟩
      obtain ⟨sb, hsb⟩ : ∃ x, s.2 = x := ⟨_, rfl⟩
      have HSB := Hid.mk' hsb
      rw [hsb]
      clear hsb
      cases sb with
      | true =>
        go_wp2_with fail
        have HCC : Hid (chs b = (conC cs, s)) := Hid.mk' (by rw [hC.out, chsP_bad HSB.out])
        refine (rdone_spec (rest := s.1) H4.swap hR4.out).mono ?_
        rintro e w6 ⟨rfl, rfl⟩
        obtain ⟨dn, hdn⟩ : ∃ x, x = (!s.2 && decide (s.1.length = 0)) := ⟨_, rfl⟩
        rw [← hdn]
        have HDN := Hid.mk' hdn
        clear hdn
        go_wp2_with fail
        go_ret2
        obtain ⟨R7, le7, H7, hr7⟩ := H4.freezeRow
        exact ⟨R7, _, cs, le4.trans le7, by rw [HCC.out, HDN.out]; rfl, ⟨hr7, fun x hx => Rd.le (hRD.out x hx) le7⟩, by rw [HCC.out], ⟨by omega, fun x hx => by have := hD.out x hx; omega⟩, H7.drop⟩
      | false =>
        go_wp2_with fail
        refine (rd_num (s := s) (k := 2) (by decide) H4.swap hR4.out).mono ?_
        rintro e w6 ⟨v6, rfl, H6, hr6⟩
        have hl6 := Nat.le_trans (pNum_le 2 s) hsl
        obtain ⟨a2, ha⟩ : ∃ a, a = pNum 2 s := ⟨_, rfl⟩
        rw [← ha] at H6 hr6 hl6 ⊢
        have A2 := Hid.mk' ha
        have HR6 := Hid.mk' hr6
        clear ha H4 hr6
        have H7 := (H6.alloc #[.int .i64 ((a2.1 : Nat) : Int), .slice none 0 0] tChg).swap
        go_upto_region 7 with fail
        generalize (World.alloc ..) = w7 at H7 ⊢
        generalize w6.heap.size = g at H7 ⊢
        clear H6
        go_wp2_with fail
        refine (rd_num (s := a2.2) (k := 1) (by decide) H7 HR6.out).mono ?_
        rintro e w8 ⟨v8, rfl, H8, hr8⟩
        have hl8 := Nat.le_trans (pNum_le 1 a2.2) hl6
        obtain ⟨a3, ha⟩ : ∃ a, a = pNum 1 a2.2 := ⟨_, rfl⟩
        rw [← ha] at H8 hr8 hl8 ⊢
        have A3 := Hid.mk' ha
        have HR8 := Hid.mk' hr8
        have HE3 : Hid (Eaten b.length (cs.length + 1) a3.2) := Hid.mk' (by rw [ha, A2.out]; exact hE.out.num HSB.out)
        clear ha H7 hr8
        by_cases h1 : a3.1 = 1
        · have t1 : (((a3.1 : Nat) : Int) == 1) = true := by rw [beq_iff_eq]; omega
          have HC2 : Hid (chs b = chsP m (pRaw 64 a3.2).2 (conC cs ++ [(((a2.1 : Nat) : Int), (pRaw 64 a3.2).1)])) := Hid.mk' (by
            rw [hC.out, chsP_raw HSB.out (by rw [← A2.out, ← A3.out]; exact h1), ← A2.out, ← A3.out])
          have H1 := Hid.mk' h1
          clear h1
          go_wp2_with fail
          refine (rraw_spec (n := 64) (rest := a3.2.1) (bad := a3.2.2) H8 HR8.out (by omega)).mono ?_
          rintro e w9 ⟨o9, v9, rfl, H9, hr9⟩
          obtain ⟨R10, le10, H10, hr10⟩ := H9.freezeRow
          replace hr10 : RdB R10.cell? o9 (pRaw 64 a3.2).1 := hr10
          obtain ⟨a10, c10, rfl⟩ := hr10.form
          replace hr9 : RdB R10.cell? v9 (pRaw 64 a3.2).2.1 := Rd.le hr9 le10
          replace H10 : Holds w9 R10 (star (blk p3 #[v9, .bool (pRaw 64 a3.2).2.2] rdrT) (star (blk g #[.int .i64 ((a2.1 : Nat) : Int), .slice none 0 0] tChg) (star (row tChg 2 (.slice ao cs.length co) cs.length (cs.flatMap Ch.cells)) L))) := H10
          obtain ⟨q, hq⟩ : ∃ q, q = pRaw 64 a3.2 := ⟨_, rfl⟩
          have HE4 : Hid (Eaten b.length (cs.length + 1) q.2) := Hid.mk' (by rw [hq]; exact HE3.out.raw)
          have hq64 : q.1.length ≤ 64 := by rw [hq]; exact cutOut_64 _ _
          have hql : q.2.1.length ≤ N0 := by rw [hq]; exact Nat.le_trans (cutRest_le _ _ _) hl8
          rw [← hq] at HC2 hr10 H10 hr9 ⊢
          have HR10 := Hid.mk' hr10
          have HR9 := Hid.mk' hr9
          have HQ64 := Hid.mk' hq64
          obtain ⟨ql, hqll⟩ : ∃ n, n = q.1.length := ⟨_, rfl⟩
          have HQLL := Hid.mk' hqll
          rw [← hqll]
          clear H8 H9 hq hr9 hr10 hq64 hqll
          obtain ⟨l8, n8, c8, z8⟩ := Holds.facts (H10.swap)
          go_upto_region 9 with fail
          have H11a := (H10.swap.set 1 (.slice a10 ql c10))
          replace H11a : Holds _ R10 (star (blk g #[.int .i64 ((a2.1 : Nat) : Int), .slice a10 ql c10] tChg) (star (blk p3 #[v9, .bool q.2.2] rdrT) (star (row tChg 2 (.slice ao cs.length co) cs.length (cs.flatMap Ch.cells)) L))) := H11a
          generalize (World.setCell ..) = w11 at H11a ⊢
          clear l8 n8 c8 z8 H10
          have H10 := H11a
          clear H11a
          obtain ⟨l9, n9, c9, z9⟩ := Holds.facts (H10)
          go_upto_region 9 with fail
          go_wp2_with (with_reducible refine stop_append ?_)
          have H11 := H10.alloc #[.int .i64 ((a2.1 : Nat) : Int), .slice a10 ql c10] tChg
          have hr11 := (H11.toRow 2 1 1 (Nat.le_refl _) (by decide) rfl).rowRd
          refine Hold.go (wpList_append rfl _ _ rfl undChgs infoChg rfl (by decide) rfl rfl H11.drop.pick3 hr11 (by simp [Value.oneCell']) (by simp only [maxLen]; omega) (by omega) ?_)
          intro v12 w12 H12
          clear l9 n9 c9 z9 hr11 H11
          go_wp2_with fail
          go_roundw
          case rel =>
            refine ⟨m, q.2, R10, cs ++ [⟨((a2.1 : Nat) : Int), .slice a10 ql c10, q.1⟩], v9, by go_num, by omega, le4.trans le10, Hid.mk' ?_, Hid.mk' ?_, hql, Hid.mk' (fun x hx => ?_), Hid.mk' (fun x hx => ?_), Hid.mk' ?_, ?_⟩
            · rw [HC2.out]; simp [conC]
            · rw [List.length_append]; exact HE4.out
            · rcases List.mem_append.1 hx with h | h
              · exact hD.out x h
              · obtain rfl := List.mem_singleton.1 h
                exact HQ64.out
            · rcases List.mem_append.1 hx with h | h
              · exact Rd.le (hRD.out x h) le10
              · obtain rfl := List.mem_singleton.1 h
                have h2 := HR10.out
                rw [← HQLL.out] at h2
                show RdB R10.cell? (.slice a10 ql c10) q.1
                exact h2
            · exact HR9.out
            · rw [flat_snoc, List.length_append]
              exact H12.swap.drop
          case measure => simp [intOf]
        · have t1 : (((a3.1 : Nat) : Int) == 1) = false := by rw [beq_eq_false_iff_ne]; omega
          have HC2 : Hid (chs b = chsP m a3.2 (conC cs ++ [(((a2.1 : Nat) : Int), [])])) := Hid.mk' (by
            rw [hC.out, chsP_no HSB.out (by rw [← A2.out, ← A3.out]; exact h1), ← A2.out, ← A3.out])
          have H1 := Hid.mk' h1
          clear h1
          have H10 := H8.swap
          clear H8
          obtain ⟨l9, n9, c9, z9⟩ := Holds.facts (H10)
          go_upto_region 9 with fail
          go_wp2_with (with_reducible refine stop_append ?_)
          have H11 := H10.alloc #[.int .i64 ((a2.1 : Nat) : Int), .slice none 0 0] tChg
          have hr11 := (H11.toRow 2 1 1 (Nat.le_refl _) (by decide) rfl).rowRd
          refine Hold.go (wpList_append rfl _ _ rfl undChgs infoChg rfl (by decide) rfl rfl H11.drop.pick3 hr11 (by simp [Value.oneCell']) (by simp only [maxLen]; omega) (by omega) ?_)
          intro v12 w12 H12
          clear l9 n9 c9 z9 hr11 H11
          go_wp2_with fail
          go_roundw
          case rel =>
            refine ⟨m, a3.2, R4, cs ++ [⟨((a2.1 : Nat) : Int), .slice none 0 0, []⟩], v8, by go_num, by omega, le4, Hid.mk' ?_, Hid.mk' ?_, hl8, Hid.mk' (fun x hx => ?_), Hid.mk' (fun x hx => ?_), HR8, ?_⟩
            · rw [HC2.out]; simp [conC]
            · rw [List.length_append]; exact HE3.out
            · rcases List.mem_append.1 hx with h | h
              · exact hD.out x h
              · obtain rfl := List.mem_singleton.1 h
                exact Nat.zero_le _
            · rcases List.mem_append.1 hx with h | h
              · exact hRD.out x h
              · obtain rfl := List.mem_singleton.1 h
                exact Rd.nil
            · rw [flat_snoc, List.length_append]
              exact H12.swap.drop
          case measure => simp [intOf]
    · have d1 : decide ((0 : Int) < (k : Int)) = false := by simp; omega
      have d1n : decide (0 < k) = false := by simp; omega
      have hk00 : k = 0 := by omega
      have HCC : Hid (chs b = (conC cs, s)) := Hid.mk' (by rw [hC.out, hk00]; rfl)
      have hcl : cs.length ≤ 985 := by have := hE.out.1; have := HN0.out; omega
      have HX := Hid.mk' hk00
      clear hk00
      go_wp2_with fail
      refine (rdone_spec (rest := s.1) H4.swap hR4.out).mono ?_
      rintro e w6 ⟨rfl, rfl⟩
      obtain ⟨dn, hdn⟩ : ∃ x, x = (!s.2 && decide (s.1.length = 0)) := ⟨_, rfl⟩
      rw [← hdn]
      have HDN := Hid.mk' hdn
      clear hdn
      go_wp2_with fail
      go_ret2
      obtain ⟨R7, le7, H7, hr7⟩ := H4.freezeRow
      exact ⟨R7, _, cs, le4.trans le7, by rw [HCC.out, HDN.out]; rfl, ⟨hr7, fun x hx => Rd.le (hRD.out x hx) le7⟩, by rw [HCC.out], ⟨by omega, fun x hx => by have := hD.out x hx; omega⟩, H7.drop⟩
end Sh
/- Changes' sectors: the plain law: what is put is read back. -/
set_option linter.unusedVariables false
set_option linter.unusedSimpArgs false
namespace Sh
open Go Go.RowKit Go.Proofs
attribute [local go_sem ↓] Go.wp_at_zero Go.wp_at_succ
set_option maxHeartbeats 1000000
set_option maxRecDepth 100000

theorem pRaw_pre (x y : List UInt8) {n : Nat} (h : n = x.length) : pRaw n (x ++ y, false) = (x, (y, false)) := by
  obtain ⟨h1, h2, h3⟩ := cut_yes (rest := x ++ y) (n := n) (by rw [List.length_append]; omega)
  rw [List.take_left' h.symm] at h2
  rw [List.drop_left' h.symm] at h3
  simp only [pRaw, h1, h2, h3]; rfl
theorem chsP_text : ∀ (E : List En) (rest : List UInt8) (acc : List En), E.all (fun c => placeC c.1) = true → E.all (fun c => formC c.2) = true → chsP E.length (E.flatMap entC ++ rest, false) acc = (acc ++ E, (rest, false))
  | [], rest, acc, _, _ => by simp [chsP]
  | (a, d) :: E, rest, acc, h1, h2 => by
    rw [List.all_cons, Bool.and_eq_true] at h1 h2
    have ha : 0 ≤ a ∧ a < 65536 := by have := h1.1; simp [placeC] at this; omega
    have hd : d.length = 0 ∨ d.length = 64 := by have := h2.1; simp [formC] at this; rcases this with h | h <;> simp [h]
    have e : (((a, d) :: E).flatMap entC ++ rest) = nb 2 a ++ (nb 1 (min d.length 1 : Nat) ++ (d ++ (E.flatMap entC ++ rest))) := by
      rw [List.flatMap_cons, entC]; simp only [List.append_assoc]
    rw [e, List.length_cons]
    obtain ⟨p1, p2⟩ := num_at (k := 2) (s := (nb 2 a ++ (nb 1 (min d.length 1 : Nat) ++ (d ++ (E.flatMap entC ++ rest))), false)) (n := a) rfl (by decide) ha.1 (show a < 256 ^ 2 by omega)
    obtain ⟨q1, q2⟩ := num_at (k := 1) p2 (by decide) (by omega) (show ((min d.length 1 : Nat) : Int) < 256 ^ 1 by omega)
    rcases hd with hd | hd
    · rw [chsP_no rfl (by intro h; omega), q2, p1]
      obtain rfl : d = [] := List.eq_nil_of_length_eq_zero hd
      rw [List.nil_append, chsP_text E rest _ h1.2 h2.2]; simp
    · rw [chsP_raw rfl (by omega), q2, p1, pRaw_pre d _ hd.symm, chsP_text E rest _ h1.2 h2.2]; simp
theorem chs_text {E : List En} (h : checkC E = 0) (rest : List UInt8) : chs (textC E ++ rest) = (E, (rest, false)) := by
  obtain ⟨h1, h2, h3, h4⟩ := checkC_ok h
  have h5 := sizeC_len E
  rw [chs, textC, List.append_assoc]
  obtain ⟨p1, p2⟩ := num_at (k := 2) (s := (nb 2 (E.length : Nat) ++ (E.flatMap entC ++ rest), false)) (n := (E.length : Nat)) rfl (by decide) (by omega) (show ((E.length : Nat) : Int) < 256 ^ 2 by omega)
  rw [p2, show (pNum 2 (nb 2 (E.length : Nat) ++ (E.flatMap entC ++ rest), false)).1 = E.length by omega, chsP_text E rest [] h1 h3, List.nil_append]
theorem headC_open (b : List UInt8) : openOk (sealS (headC b)) = true ∧ headC b <+: openP (sealS (headC b)) := by
  have hl : (headC b).length ≤ 60 := by rw [headC_len]; omega
  obtain ⟨o1, o2⟩ := open_seal hl
  refine ⟨o1, ?_⟩
  rw [o2, padTo60, List.take_of_length_le hl]
  exact ⟨_, rfl⟩
theorem headC_parse {b p : List UInt8} (hb : b.length ≤ 1856) (hp : headC b <+: p) : (pNum 1 (p.drop 1, false)).1 = partsN b.length ∧ (pNum 2 (pNum 1 (p.drop 1, false)).2).1 = b.length := by
  obtain ⟨t, ht⟩ := hp
  have hd : p.drop 1 = nb 1 (partsN b.length : Nat) ++ (nb 2 (b.length : Nat) ++ (nb 4 (tn (crcOf b)) ++ t)) := by
    rw [← ht, headC]
    simp only [List.append_assoc]
    have : (nb 1 106).length = 1 := by rw [nb_length]; rfl
    exact List.drop_left' this
  obtain ⟨p1, p2⟩ := num_at (k := 1) (s := (p.drop 1, false)) (n := (partsN b.length : Nat)) (by rw [hd]; rfl) (by decide) (by omega) (show ((partsN b.length : Nat) : Int) < 256 ^ 1 by unfold partsN; omega)
  obtain ⟨q1, q2⟩ := num_at (k := 2) p2 (by decide) (by omega) (show ((b.length : Nat) : Int) < 256 ^ 2 by omega)
  exact ⟨by omega, by omega⟩
def pad58 (l : List UInt8) : List UInt8 := l ++ List.replicate (58 - l.length) 0
theorem body_txt2 (b : List UInt8) (i : Nat) : openOk (sealS (bodyC b i)) = true ∧ txt2 (sealS (bodyC b i)) = pad58 (partC b i) := by
  have hl := bodyC_len b i
  obtain ⟨o1, o2⟩ := open_seal hl
  refine ⟨o1, ?_⟩
  rw [txt2, o2, padTo60, List.take_of_length_le hl]
  show ((98 :: UInt8.ofNat i :: partC b i) ++ _).drop 2 = _
  rw [pad58]
  show partC b i ++ (List.replicate 60 (0 : UInt8)).drop (98 :: UInt8.ofNat i :: partC b i).length = _
  rw [List.drop_replicate, List.length_cons, List.length_cons]
  congr 2
  omega
theorem parts_all (b : List UInt8) : ∀ n, (List.range n).flatMap (fun i => pad58 (partC b i)) = b.take (58 * n) ++ List.replicate (58 * n - b.length) 0
  | 0 => by simp
  | n + 1 => by
    rw [List.range_succ, List.flatMap_append, parts_all b n, List.flatMap_cons, List.flatMap_nil, List.append_nil, pad58, partC_len, partC]
    by_cases h : 58 * n ≤ b.length
    · rw [show 58 * n - b.length = 0 by omega, List.replicate_zero, List.append_nil, ← List.append_assoc, show 58 * (n + 1) = 58 * n + 58 by omega, List.take_add]
      congr 2
      omega
    · rw [List.drop_of_length_le (by omega), List.take_of_length_le (l := b) (by omega), List.take_of_length_le (l := b) (by omega)]
      rw [List.take_nil, List.nil_append, List.append_assoc, List.replicate_append_replicate]
      congr 2
      omega
theorem parts_end (b : List UInt8) : ∃ k, (List.range (partsN b.length)).flatMap (fun i => pad58 (partC b i)) = b ++ List.replicate k 0 := by
  refine ⟨58 * partsN b.length - b.length, ?_⟩
  rw [parts_all, List.take_of_length_le (by unfold partsN; omega)]
theorem putC_len (E : List En) : (putC E).length = 1 + partsN (textC E).length := by simp [putC]; omega
/-- What the sectors begin with says the changes. -/
theorem putC_says {E : List En} {ss : List (List UInt8)} (h : checkC E = 0) (hp : putC E <+: ss) : ∃ s0 rest, ss = s0 :: rest ∧ openOk s0 = true ∧ headC (textC E) <+: openP s0 ∧ partsN (textC E).length ≤ rest.length ∧
    (∃ k, gathC (rest.take (partsN (textC E).length)) = textC E ++ List.replicate k 0) ∧ ∃ junk, (rest.filter openOk).flatMap txt2 = textC E ++ junk := by
  obtain ⟨t, ht⟩ := hp
  obtain ⟨k, hk⟩ := parts_end (textC E)
  have hall : ∀ x ∈ (List.range (partsN (textC E).length)).map (fun i => sealS (bodyC (textC E) i)), openOk x = true := by
    intro x hx
    obtain ⟨i, _, rfl⟩ := List.mem_map.1 hx
    exact (body_txt2 _ i).1
  have hfl : ((List.range (partsN (textC E).length)).map (fun i => sealS (bodyC (textC E) i))).flatMap txt2 = textC E ++ List.replicate k 0 := by
    rw [List.flatMap_map, ← hk]
    exact flatMap_congr' fun i _ => (body_txt2 _ i).2
  refine ⟨sealS (headC (textC E)), ((List.range (partsN (textC E).length)).map fun i => sealS (bodyC (textC E) i)) ++ t, by rw [← ht]; rfl, (headC_open _).1, (headC_open _).2, by simp, ⟨k, ?_⟩, ⟨List.replicate k 0 ++ (t.filter openOk).flatMap txt2, ?_⟩⟩
  · rw [List.take_left' (by simp), gathC, if_pos (List.all_eq_true.2 hall), hfl]
  · rw [List.filter_append, List.flatMap_append, List.filter_eq_self.2 hall, hfl, List.append_assoc]
def GotC (ss : List (List UInt8)) (M : List En) (ok : Bool) : Prop := (ok = true ∧ checkC M = 0 ∧ putC M <+: ss) ∨ (ok = false ∧ M = [] ∧ ∀ E, checkC E = 0 → ¬ putC E <+: ss)
theorem putC_one {E F : List En} {ss : List (List UInt8)} (hE : checkC E = 0) (hF : checkC F = 0) (h1 : putC E <+: ss) (h2 : putC F <+: ss) : E = F := by
  obtain ⟨s0, rest, e1, _, _, _, _, j1, g1⟩ := putC_says hE h1
  obtain ⟨s1, rest1, e2, _, _, _, _, j2, g2⟩ := putC_says hF h2
  rw [e1] at e2
  obtain ⟨rfl, rfl⟩ := List.cons.inj e2
  have e := g1.symm.trans g2
  have c1 := chs_text hE j1
  rw [e, chs_text hF j2] at c1
  exact (Prod.mk.inj c1).1.symm
theorem GotC.one {ss : List (List UInt8)} {M M' : List En} {ok ok' : Bool} (h : GotC ss M ok) (h' : GotC ss M' ok') : M = M' ∧ ok = ok' := by
  rcases h with ⟨rfl, h1, h2⟩ | ⟨rfl, h1, h2⟩ <;> rcases h' with ⟨rfl, k1, k2⟩ | ⟨rfl, k1, k2⟩
  · exact ⟨putC_one h1 k1 h2 k2, rfl⟩
  · exact absurd h2 (k2 _ h1)
  · exact absurd k2 (h2 _ k1)
  · exact ⟨h1.trans k1.symm, rfl⟩
end Sh
/- sherdref18.Check. -/
set_option linter.unusedVariables false
set_option linter.unusedSimpArgs false
namespace Sh
open Go Go.RowKit Go.Proofs
attribute [local go_sem ↓] Go.wp_at_zero Go.wp_at_succ
set_option maxHeartbeats 1000000
set_option maxRecDepth 100000

theorem nodup_snoc {l : List Int} {x : Int} : (l ++ [x]).Nodup ↔ l.Nodup ∧ x ∉ l := by
  rw [List.nodup_append]
  constructor
  · rintro ⟨h1, _, h3⟩
    exact ⟨h1, fun h => h3 x h x (by simp) rfl⟩
  · rintro ⟨h1, h2⟩
    refine ⟨h1, by simp, fun a ha b hb => ?_⟩
    obtain rfl := List.mem_singleton.1 hb
    rintro rfl
    exact h2 ha
theorem not_nodup {l : List Int} {i k : Nat} (hk : k < i) (hi : i < l.length) (h : l[i] = l[k]'(by omega)) : ¬ l.Nodup := by
  intro hn
  have := (List.pairwise_iff_getElem.1 hn) k i (by omega) hi hk
  exact this h.symm
set_option maxHeartbeats 4000000
theorem chRCheck_spec {w : World} {R : Snap} {L : Asrt} {v : Value} {cs : List Ch} (H : Holds w R L) (hr : RdC R.cell? v cs) (hz : SzC cs) :
    Calls Try.prog 64 #[v] w fun e w' => e = .returned (.int .i64 (checkC (conC cs))) ∧ Holds w' R L := by
  obtain ⟨a, c, rfl⟩ := hr.form
  obtain ⟨n, hn⟩ : ∃ n, n = cs.length := ⟨_, rfl⟩
  obtain ⟨K, hK⟩ : ∃ K, K = checkC (conC cs) := ⟨_, rfl⟩
  obtain ⟨E, hE⟩ : ∃ E, E = conC cs := ⟨_, rfl⟩
  obtain ⟨AT, hAT⟩ : ∃ AT, AT = E.map Prod.fst := ⟨_, rfl⟩
  have HR := Hid.mk' hr
  have HN := Hid.mk' hn
  have HZ := Hid.mk' hz
  have HE := Hid.mk' hE
  have hn9 : n ≤ 1000 := by rw [hn]; exact hz.1
  have HEL : Hid (E.length = n) := Hid.mk' (by rw [hE, conC_len, hn])
  have HAL : Hid (AT.length = n) := Hid.mk' (by rw [hAT, List.length_map, hE, conC_len, hn])
  have HEG : Hid (∀ j (h : j < cs.length) (h2 : j < E.length), E[j] = (cs[j].at_, cs[j].data)) := Hid.mk' (fun j h h2 => by
    have := conC_get h
    rw [← hE, List.getElem?_eq_getElem h2] at this
    exact Option.some.inj this)
  have HAG : Hid (∀ j (h : j < cs.length) (h2 : j < AT.length), AT[j] = cs[j].at_) := Hid.mk' (fun j h h2 => by
    have h3 := HEG.out j h (by rw [HEL.out]; rw [HAL.out] at h2; exact h2)
    simp only [hAT, List.getElem_map, h3])
  rw [← hK]
  rw [← hE] at hK
  have HK := Hid.mk' hK
  have HAT := Hid.mk' hAT
  rw [← hn]
  clear hr hn hz hE hK hAT
  go_enter Try.func64, Try.ntmps64
  go_wp2_with fail
  go_loop [3] (fun i => ∃ (j : Nat), i = .int .i64 j ∧ j ≤ n ∧ Hid ((E.take j).all (fun c => placeC c.1) = true)) (fun i => n - (intOf i).toNat)
  case atStart => exact ⟨0, rfl, Nat.zero_le _, Hid.mk' rfl⟩
  case round =>
    obtain ⟨j, rfl, hj, hA⟩ := hrel
    by_cases hlt : j < n
    · have d1 : decide ((j : Int) < (n : Int)) = true := by simp; omega
      have hjs : j < cs.length := by rw [← HN.out]; exact hlt
      have hjE : j < E.length := by rw [HEL.out]; exact hlt
      obtain ⟨b2, o2, rfl, hc0, hc1, hq⟩ := RdC.at HR.out hjs
      have he := HEG.out j hjs hjE
      have HJE := Hid.mk' hjE
      generalize cs[j] = x at *
      obtain ⟨xa, xv, xd⟩ := x
      simp only at hc0 hc1 hq he
      replace hc0 := H.cell hc0
      have i1 : (0 : Int) ≤ (j : Int) := by omega
      have i2 : (j : Int) < (n : Int) := by omega
      have HE2 : Hid (∀ h : j < E.length, E[j] = (xa, xd)) := Hid.mk' (fun _ => he)
      clear hq hc1 hjE he hjs
      by_cases h0 : xa = 0
      · have t0 : (xa != 0) = false := by simp [h0]
        have HP : Hid (placeC xa = true) := Hid.mk' (by simp [placeC, h0])
        clear h0
        go_wp2_with fail
        go_round
        case rel => exact ⟨j + 1, by go_num, hlt, Hid.mk' (all_take_step HJE.out hA.out (by rw [HE2.out]; exact HP.out))⟩
        case measure => simp [intOf]; omega
      · have t0 : (xa != 0) = true := by simp [h0]
        by_cases h1 : xa < 34
        · have t1 : decide (xa < 34) = true := by simpa using h1
          have HKK : Hid (K = 2) := Hid.mk' (by rw [HK.out, checkC, all_not HJE.out (by rw [HE2.out]; simp [placeC, h0]; omega)]; rfl)
          have HX := Hid.mk' h0
          clear h0 h1
          go_wp2_with fail
          go_ret
          exact ⟨by rw [HKK.out]; rfl, H⟩
        · have t1 : decide (xa < 34) = false := by simp; omega
          by_cases h2 : 511 < xa
          · have t2 : decide (511 < xa) = true := by simpa using h2
            have HKK : Hid (K = 2) := Hid.mk' (by rw [HK.out, checkC, all_not HJE.out (by rw [HE2.out]; simp [placeC, h0]; omega)]; rfl)
            have HX := Hid.mk' h0
            clear h0 h1 h2
            go_wp2_with fail
            go_ret
            exact ⟨by rw [HKK.out]; rfl, H⟩
          · have t2 : decide (511 < xa) = false := by simp; omega
            have HP : Hid (placeC xa = true) := Hid.mk' (by simp [placeC]; omega)
            have HX := Hid.mk' h0
            clear h0 h1 h2
            go_wp2_with fail
            go_round
            case rel => exact ⟨j + 1, by go_num, hlt, Hid.mk' (all_take_step HJE.out hA.out (by rw [HE2.out]; exact HP.out))⟩
            case measure => simp [intOf]; omega
    · have d1 : decide ((j : Int) < (n : Int)) = false := by simp; omega
      obtain rfl : j = n := by omega
      have hA' : E.all (fun c => placeC c.1) = true := by have := hA.out; rwa [List.take_of_length_le (by rw [HEL.out]; exact Nat.le_refl _)] at this
      have HA := Hid.mk' hA'
      clear hA hA' d1 hlt hj
      go_wp2_with fail
      go_loopw [5] (fun i wx => ∃ (p : Nat), i = .int .i64 p ∧ p ≤ j ∧ Hid ((AT.take p).Nodup) ∧ Holds wx R L) (fun i _ => j - (intOf i).toNat)
      case atStart => exact ⟨0, rfl, Nat.zero_le _, Hid.mk' (by simp), H⟩
      case round =>
        clear H
        obtain ⟨p, rfl, hp, hD, H1⟩ := hrel
        by_cases hlt : p < j
        · have d1 : decide ((p : Int) < (j : Int)) = true := by simp; omega
          have hps : p < cs.length := by rw [← HN.out]; exact hlt
          have hpA : p < AT.length := by rw [HAL.out]; exact hlt
          obtain ⟨b2, o2, rfl, hc0, q1, q2⟩ := RdC.at HR.out hps
          rw [← HAG.out p hps hpA] at hc0
          obtain ⟨y, hy⟩ : ∃ y, y = AT[p] := ⟨_, rfl⟩
          rw [← hy] at hc0
          have HY : Hid (∀ h : p < AT.length, AT[p] = y) := Hid.mk' (fun _ => hy.symm)
          have C0 := Hid.mk' hc0
          have HPA := Hid.mk' hpA
          have i1 : (0 : Int) ≤ (p : Int) := by omega
          have i2 : (p : Int) < (j : Int) := by omega
          clear hy hc0 q1 q2 hps hpA
          go_wp2_with fail
          go_loopw [6] (fun i wx => ∃ (k : Nat), i = .int .i64 k ∧ k ≤ p ∧ Hid (y ∉ AT.take k) ∧ Holds wx R L) (fun i _ => p - (intOf i).toNat)
          case atStart => exact ⟨0, rfl, Nat.zero_le _, Hid.mk' (by simp), H1⟩
          case round =>
            clear H1
            obtain ⟨k, rfl, hk, hM, H2⟩ := hrel
            by_cases hlk : k < p
            · have d2 : decide ((k : Int) < (p : Int)) = true := by simp; omega
              have hks : k < cs.length := by rw [← HN.out]; omega
              have hkA : k < AT.length := by rw [HAL.out]; omega
              obtain ⟨b3, o3, ha3, hc3, q1, q2⟩ := RdC.at HR.out hks
              simp only [Option.some.injEq, Addr.mk.injEq, and_true] at ha3
              obtain ⟨rfl, rfl⟩ := ha3
              rw [← HAG.out k hks hkA] at hc3
              obtain ⟨z, hz⟩ : ∃ z, z = AT[k] := ⟨_, rfl⟩
              rw [← hz] at hc3
              have HZZ : Hid (∀ h : k < AT.length, AT[k] = z) := Hid.mk' (fun _ => hz.symm)
              have HKA := Hid.mk' hkA
              replace hc3 := H2.cell hc3
              have hc0 := H2.cell C0.out
              have i3 : (0 : Int) ≤ (k : Int) := by omega
              have i4 : (k : Int) < (j : Int) := by omega
              clear hz q1 q2 hks hkA
              go_wp2_with fail
              go_quiet (fail)
              by_cases hyz : y = z
              · have t1 : (y == z) = true := by simpa using hyz
                have HKK : Hid (K = 5) := Hid.mk' (by
                  rw [HK.out, checkC, if_pos HA.out, if_neg]
                  rw [← HAT.out]
                  exact not_nodup hlk HPA.out (by rw [HY.out, HZZ.out, hyz]))
                have HX := Hid.mk' hyz
                clear hyz
                go_wp2_with fail
                go_ret
                exact ⟨by rw [HKK.out]; rfl, H2.drewN _⟩
              · have t1 : (y == z) = false := by simpa using hyz
                have HX := Hid.mk' hyz
                clear hyz
                go_wp2_with fail
                go_roundw
                case rel =>
                  refine ⟨k + 1, by go_num, hlk, Hid.mk' ?_, H2.drewN _⟩
                  rw [List.take_succ_eq_append_getElem HKA.out, HZZ.out, List.mem_append, List.mem_singleton]
                  rintro (h | h)
                  · exact hM.out h
                  · exact HX.out h
                case measure => simp [intOf]; omega
            · have d2 : decide ((k : Int) < (p : Int)) = false := by simp; omega
              obtain rfl : k = p := by omega
              go_wp2_with fail
              go_roundw
              case rel =>
                refine ⟨k + 1, by go_num, hlt, Hid.mk' ?_, H2⟩
                rw [List.take_succ_eq_append_getElem HPA.out, HY.out, nodup_snoc]
                exact ⟨hD.out, hM.out⟩
              case measure => simp [intOf]; omega
        · have d1 : decide ((p : Int) < (j : Int)) = false := by simp; omega
          obtain rfl : p = j := by omega
          have hD' : (E.map Prod.fst).Nodup := by have := hD.out; rwa [List.take_of_length_le (by rw [HAL.out]; exact Nat.le_refl _), HAT.out] at this
          have HND := Hid.mk' hD'
          clear hD hD' d1 hlt hp
          go_wp2_with fail
          go_loop [7] (fun i => ∃ (k : Nat), i = .int .i64 k ∧ k ≤ p ∧ Hid ((E.take k).all (fun c => formC c.2) = true)) (fun i => p - (intOf i).toNat)
          case atStart => exact ⟨0, rfl, Nat.zero_le _, Hid.mk' rfl⟩
          case round =>
            obtain ⟨k, rfl, hk, hF⟩ := hrel
            by_cases hlt : k < p
            · have d2 : decide ((k : Int) < (p : Int)) = true := by simp; omega
              have hjs : k < cs.length := by rw [← HN.out]; exact hlt
              have hjE : k < E.length := by rw [HEL.out]; exact hlt
              obtain ⟨b2, o2, rfl, hc0, hc1, hq⟩ := RdC.at HR.out hjs
              have he := HEG.out k hjs hjE
              have HJE := Hid.mk' hjE
              generalize cs[k] = x at *
              obtain ⟨xa, xv, xd⟩ := x
              simp only at hc0 hc1 hq he
              obtain ⟨ax, cx, rfl⟩ := hq.form
              obtain ⟨l, hl⟩ : ∃ l, l = xd.length := ⟨_, rfl⟩
              rw [← hl] at hc1
              replace hc1 := H1.cell hc1
              have i1 : (0 : Int) ≤ (k : Int) := by omega
              have i2 : (k : Int) < (p : Int) := by omega
              have HE2 : Hid (∀ h : k < E.length, E[k] = (xa, xd)) := Hid.mk' (fun _ => he)
              have HL := Hid.mk' hl
              have hlm := Rd.max hq
              rw [← hl] at hlm
              unfold maxLen at hlm
              clear hq hl hjE he hjs hc0
              by_cases h0 : l = 0
              · have t2 : ((l : Int) != 0) = false := by simp; omega
                have HFX : Hid (formC xd = true) := Hid.mk' (by simp [formC, ← HL.out, h0])
                clear h0
                go_wp2_with fail
                go_round
                case rel => exact ⟨k + 1, by go_num, hlt, Hid.mk' (all_take_step HJE.out hF.out (by rw [HE2.out]; exact HFX.out))⟩
                case measure => simp [intOf]; omega
              · have t2 : ((l : Int) != 0) = true := by simp; omega
                by_cases h64 : l = 64
                · have t3 : ((l : Int) != 64) = false := by simp; omega
                  have HFX : Hid (formC xd = true) := Hid.mk' (by simp [formC, ← HL.out, h64])
                  have H64 := Hid.mk' h64
                  clear h0 h64
                  go_wp2_with fail
                  go_round
                  case rel => exact ⟨k + 1, by go_num, hlt, Hid.mk' (all_take_step HJE.out hF.out (by rw [HE2.out]; exact HFX.out))⟩
                  case measure => simp [intOf]; omega
                · have t3 : ((l : Int) != 64) = true := by simp; omega
                  have HKK : Hid (K = 3) := Hid.mk' (by
                    rw [HK.out, checkC, if_pos HA.out, if_pos HND.out, all_not HJE.out (by rw [HE2.out]; simp [formC, ← HL.out, h0, h64])]; rfl)
                  have HX := Hid.mk' (And.intro h0 h64)
                  clear h0 h64
                  go_wp2_with fail
                  go_ret
                  exact ⟨by rw [HKK.out]; rfl, H1⟩
            · have d2 : decide ((k : Int) < (p : Int)) = false := by simp; omega
              obtain rfl : k = p := by omega
              have hF' : E.all (fun c => formC c.2) = true := by have := hF.out; rwa [List.take_of_length_le (by rw [HEL.out]; exact Nat.le_refl _)] at this
              have HF := Hid.mk' hF'
              have HPL : Hid (∀ x ∈ cs, x.at_ ≤ 9223372036854775807) := Hid.mk' (fun x hx => by
                obtain ⟨i, hi, rfl⟩ := List.mem_iff_getElem.1 hx
                have h1 := HEG.out i hi (by rw [HEL.out, HN.out]; exact hi)
                have h2 := List.all_eq_true.1 HA.out _ (List.getElem_mem (by rw [HEL.out, HN.out]; exact hi))
                rw [h1] at h2
                simp [placeC] at h2
                omega)
              clear hF hF'
              go_wp2_with fail
              refine (chText_spec H1 (by have h := HR.out; rw [← HN.out] at h; exact h) HZ.out HPL.out).mono ?_
              rintro e w6 ⟨o6, rfl, H6⟩
              obtain ⟨a6, c6, rfl⟩ := H6.rowRd.form
              rw [textC_len, ← HE.out]
              have hs9 := sizeC_le cs HZ.out k
              rw [← HE.out, List.take_of_length_le (by rw [HEL.out]; exact Nat.le_refl _)] at hs9
              have hz1 := HZ.out.1
              obtain ⟨z, hz⟩ : ∃ z, z = sizeC E := ⟨_, rfl⟩
              rw [← hz] at hs9 ⊢
              have HSZ := Hid.mk' hz
              have H7 := H6.drop
              clear hz H6
              by_cases hzz : 1856 < z
              · have t4 : decide ((1856 : Int) < (z : Int)) = true := by simp; omega
                have t4n : decide (1856 < z) = true := by simp; omega
                have HKK : Hid (K = 11) := Hid.mk' (by
                  rw [HK.out, checkC, if_pos HA.out, if_pos HND.out, if_pos HF.out, if_neg (by rw [← HSZ.out]; omega)])
                clear hzz
                go_wp2_with fail
                go_ret
                exact ⟨by rw [HKK.out]; rfl, H7⟩
              · have t4 : decide ((1856 : Int) < (z : Int)) = false := by simp; omega
                have t4n : decide (1856 < z) = false := by simp; omega
                have HKK : Hid (K = 0) := Hid.mk' (by
                  rw [HK.out, checkC, if_pos HA.out, if_pos HND.out, if_pos HF.out, if_pos (by rw [← HSZ.out]; omega)])
                clear hzz
                go_wp2_with fail
                go_ret
                exact ⟨by rw [HKK.out]; rfl, H7⟩
end Sh
/- sherdref18.Put. -/
set_option linter.unusedVariables false
set_option linter.unusedSimpArgs false
namespace Sh
open Go Go.RowKit Go.Proofs
attribute [local go_sem ↓] Go.wp_at_zero Go.wp_at_succ
set_option maxHeartbeats 1000000
set_option maxRecDepth 100000

def putCN (b : List UInt8) (n : Nat) : List (List UInt8) := sealS (headC b) :: (List.range n).map fun i => sealS (bodyC b i)
set_option maxHeartbeats 8000000
theorem chRPut_ok {w : World} {R : Snap} {L : Asrt} {v : Value} {cs : List Ch} (H : Holds w R L) (hr : RdC R.cell? v cs) (hz : SzC cs) (hok : checkC (conC cs) = 0) :
    Calls Try.prog 68 #[v] w fun e w' => ∃ o q, e = .returned o ∧ q.map Prod.snd = putC (conC cs) ∧ Holds w' R (rowsR o q L) := by
  obtain ⟨a0, c0, rfl⟩ := hr.form
  have hpl := placeC_le hok
  have hse := (checkC_ok hok).2.2.2
  obtain ⟨E, hE⟩ : ∃ E, E = conC cs := ⟨_, rfl⟩
  rw [← hE] at hse ⊢
  have H1 := chText_spec H hr hz hpl
  rw [← hE] at H1
  have HTX := Hid.mk' H1
  obtain ⟨n0, hn0⟩ : ∃ n, n = cs.length := ⟨_, rfl⟩
  rw [← hn0] at HTX ⊢
  obtain ⟨bt, hbt⟩ : ∃ bt, bt = textC E := ⟨_, rfl⟩
  rw [← hbt] at HTX
  obtain ⟨N, hN⟩ : ∃ N, N = bt.length := ⟨_, rfl⟩
  have hN9 : N ≤ 1856 := by rw [hN, hbt, textC_len]; exact hse
  obtain ⟨M, hM⟩ : ∃ M, M = partsN N := ⟨_, rfl⟩
  have hM9 : M ≤ 32 := by rw [hM]; unfold partsN; omega
  obtain ⟨PT, hPT⟩ : ∃ PT : Nat → List (List UInt8), PT = putCN bt := ⟨_, rfl⟩
  have HPT0 : Hid (PT 0 = [sealS (headC bt)]) := Hid.mk' (by rw [hPT, putCN]; rfl)
  have HPTS : Hid (∀ j, PT (j + 1) = PT j ++ [sealS (bodyC bt j)]) := Hid.mk' (fun j => by rw [hPT, putCN, putCN, List.range_succ, List.map_append]; rfl)
  have HPR : Hid (putC E = PT M) := Hid.mk' (by rw [hPT, putC, putCN, hM, hN, hbt])
  clear hPT
  rw [HPR.out]
  have hMN : 58 * M < N + 58 ∧ N ≤ 58 * M := by rw [hM]; unfold partsN; omega
  have hq1 : ((N : Int) + 57).tdiv 58 = (M : Int) := by rw [Int.tdiv_eq_ediv_of_nonneg (by omega)]; omega
  have hq2 : IntKind.i64.wrap (M : Int) = (M : Int) := IntWalk.i64_in _ (by omega)
  have hq3 : IntKind.u8.wrap (M : Int) = (M : Int) := by simp [IntKind.wrap, IntKind.signed, IntKind.bits]; omega
  have HN := Hid.mk' hN
  have HM := Hid.mk' hM
  have HHD : Hid (∀ x, x = nb 1 106 ++ nb 1 (M : Nat) ++ nb 2 (N : Nat) ++ nb 4 (tn (crcOf bt)) → sealS x = sealS (headC bt)) := Hid.mk' (fun x hx => by
    rw [hx, headC, ← hN, ← hM]; simp only [List.append_assoc])
  clear H hr hz hok hpl hse hE H1 hn0 hbt hN hM
  go_enter Try.func68, Try.ntmps68
  go_wp2_with fail
  refine HTX.out.mono ?_
  rintro e w1 ⟨o1, rfl, H1⟩
  obtain ⟨R4, le4, H4, hr4⟩ := H1.freezeRow
  replace hr4 : Rd R4.cell? 1 o1 N (u8s bt) := by rw [HN.out]; exact hr4
  obtain ⟨as_, cs_, rfl⟩ := Rd.form hr4
  have hB := Rd.bounds hr4
  have HSB : Hid (RdB R4.cell? (.slice as_ N cs_) bt) := Hid.mk' (by unfold RdB; rw [← HN.out]; exact hr4)
  have HSC : Hid (RdB R4.cell? (.slice as_ bt.length cs_) bt) := Hid.mk' (by have h := HSB.out; rw [HN.out] at h; exact h)
  obtain ⟨hB1, hB2, _⟩ := hB
  clear H1 hr4
  go_upto_region 4 with fail
  have hM8 : ((UInt8.ofNat M).toNat : Int) = (M : Int) := by rw [UInt8.toNat_ofNat']; omega
  have H5 := H4.alloc #[.int .u8 106, .int .u8 (M : Int)] tU8
  have H6 := blkB (n := 2) H5 [106, UInt8.ofNat M] (by
    show [Value.int .u8 106, Value.int .u8 (M : Int)] = [Value.int .u8 ((106 : UInt8).toNat : Int), Value.int .u8 ((UInt8.ofNat M).toNat : Int)]
    rw [hM8]; rfl) rfl (by simp)
  have e6 : [106, UInt8.ofNat M] = nb 1 106 ++ nb 1 (M : Nat) := by rw [nb_byte (by omega), nb_one]; rfl
  rw [e6] at H6
  generalize (World.alloc ..) = w6 at H6 ⊢
  generalize w1.heap.size = g6 at H6 ⊢
  clear H4 H5 e6 hM8 hq1 hq2 hq3
  go_wp2_with fail
  refine (refnum_spec (k := 2) (n := (N : Nat)) H6 (by omega)).mono ?_
  rintro e w7 ⟨o7, rfl, H7⟩
  obtain ⟨a7, c7, rfl⟩ := H7.rowRd.form
  have hrd : RdB w7.cell? (.slice a7 (nb 2 (N : Nat)).length c7) (nb 2 (N : Nat)) := H7.rowRd
  have hlk : (nb 2 (N : Nat)).length ≤ 2 := by rw [nb_length, wid_2]; exact Nat.le_refl _
  have hl2 : (nb 1 106 ++ nb 1 (M : Nat)).length ≤ 2 := by rw [List.length_append, nb_length, nb_length, wid_1]; exact Nat.le_refl _
  have H8 := H7.swap
  clear H6
  go_wp2_with (with_reducible refine stop_append ?_)
  refine Hold.go (wpList_appendB (l := nb 1 106 ++ nb 1 (M : Nat)) (k := nb 2 (N : Nat)) rfl _ _ rfl rfl rfl H8 hrd (by omega) ?_)
  intro v9 w9 H9
  have H10 := H9.drop2
  clear H7 H8 hrd H9
  go_upto_region 5 with fail
  go_wp2_with fail
  refine (csum_ref (Rd.world HSB.out H10)).mono ?_
  rintro e w11 ⟨rfl, rfl⟩
  obtain ⟨sn, hsn, hsn9⟩ : ∃ sn : Nat, tn (crcOf bt) = (sn : Int) ∧ sn ≤ 4294967295 := ⟨(crcOf bt).toNat, rfl, by have := (crcOf bt).isLt; omega⟩
  rw [hsn]
  have HSN := Hid.mk' hsn
  clear hsn
  go_wp2_with fail
  refine (refnum_spec (k := 4) (n := (sn : Nat)) H10 (by omega)).mono ?_
  rintro e w12 ⟨o12, rfl, H12⟩
  obtain ⟨a12, c12, rfl⟩ := H12.rowRd.form
  have hrd : RdB w12.cell? (.slice a12 (nb 4 (sn : Nat)).length c12) (nb 4 (sn : Nat)) := H12.rowRd
  have hlk4 : (nb 4 (sn : Nat)).length ≤ 4 := by rw [nb_length, wid_4]; exact Nat.le_refl _
  have H13 := H12.swap
  clear H10
  go_wp2_with (with_reducible refine stop_append ?_)
  refine Hold.go (wpList_appendB (l := nb 1 106 ++ nb 1 (M : Nat) ++ nb 2 (N : Nat)) (k := nb 4 (sn : Nat)) rfl _ _ rfl rfl rfl H13 hrd (by rw [List.length_append]; omega) ?_)
  intro v14 w14 H14
  obtain ⟨hd, hhd⟩ : ∃ x, x = nb 1 106 ++ nb 1 (M : Nat) ++ nb 2 (N : Nat) ++ nb 4 (sn : Nat) := ⟨_, rfl⟩
  rw [← hhd] at H14
  have hhl : hd.length ≤ 60 := by rw [hhd, List.length_append, List.length_append]; omega
  have HS : Hid (sealS hd = sealS (headC bt)) := Hid.mk' (HHD.out hd (by rw [hhd, HSN.out]))
  obtain ⟨R15, le15, H15, hr15⟩ := H14.drop2.freezeRow
  have leA := le4.trans le15
  clear H12 H13 hrd H14 hlk hlk4 hl2 hhd
  go_upto_region 6 with fail
  go_wp2_with fail
  refine (rsseal_spec H15 hr15 hhl).mono ?_
  rintro e w16 ⟨o16, rfl, H16⟩
  rw [HS.out] at H16
  obtain ⟨HDs, hHDs⟩ : ∃ x, x = sealS (headC bt) := ⟨_, rfl⟩
  rw [← hHDs] at H16
  have HHDs := Hid.mk' hHDs
  obtain ⟨a16, c16, rfl⟩ := H16.rowRd.form
  have H17 : Holds _ R15 (star (row tBytes 1 (.slice (some ⟨w16.heap.size, 0, none⟩) 1 1) 1 [.slice a16 HDs.length c16]) (star (rowB (.slice a16 HDs.length c16) HDs) L)) := (H16.alloc #[.slice a16 HDs.length c16] tBytes).toRow 1 1 1 (Nat.le_refl _) (by decide) rfl
  clear H15 H16 hr15 hhl hHDs
  go_upto_region 7 with fail
  generalize (World.alloc ..) = w17 at H17 ⊢
  generalize w16.heap.size = g17 at H17 ⊢
  obtain ⟨b0, o0, ha⟩ : ∃ b0 o0, 0 < N → as_ = some ⟨b0, o0, none⟩ := by
    by_cases h : 0 < N
    · obtain ⟨b1, o1, h1, _⟩ := RdB.open (by have := HSB.out; rw [HN.out] at this; exact this) (by rw [← HN.out]; exact h)
      exact ⟨b1, o1, fun _ => h1⟩
    · exact ⟨0, 0, fun h' => absurd h' h⟩
  clear ha
  go_wp2_with fail
  go_loopw [6, 7] (fun s6 i wx => ∃ (j : Nat) (R3 : Snap) (o : Value) (q : List (Value × List UInt8)), i = .int .i64 (j : Int) ∧ j ≤ M ∧ s6 = o ∧ q.map Prod.snd = PT j ∧ q.length = 1 + j ∧ R15.le R3 ∧ Holds wx R3 (rowsR o q L)) (fun _ i _ => M - (intOf i).toNat)
  case atStart => exact ⟨0, R15, _, [(.slice a16 HDs.length c16, HDs)], rfl, Nat.zero_le _, rfl, by rw [HPT0.out, ← HHDs.out]; rfl, rfl, Snap.le.refl _, by
    unfold rowsR
    rw [bytesAll_one]
    exact H17⟩
  case round =>
    clear H17
    obtain ⟨j, R3, o, q, rfl, hj, rfl, hq, hql, le3, H18⟩ := hrel
    have HQ := Hid.mk' hq
    have hq40 : q.length ≤ 40 := by omega
    have HQL := Hid.mk' hql
    clear hq hql
    by_cases hlt : j < M
    · have d1 : decide ((j : Int) < (M : Int)) = true := by simp; omega
      have d1n : decide (j < M) = true := by simp; omega
      obtain ⟨lo, hlo⟩ : ∃ lo, lo = 58 * j := ⟨_, rfl⟩
      have hloi : (58 : Int) * (j : Int) = (lo : Int) := by omega
      obtain ⟨e, he⟩ : ∃ e, e = min (lo + 58) N := ⟨_, rfl⟩
      have hloN : lo < N := by omega
      have HLO := Hid.mk' hlo
      have HE := Hid.mk' he
      clear hlo he
      go_upto_region 10 with fail
      go_cut [8] from 33 to 60 (fun c wx => c = .int .i64 ((lo : Int) + 58) ∧ wx = wr)
      case first =>
        go_wp2_with fail
        go_meet
        case rel => exact ⟨rfl, rfl⟩
      obtain ⟨rfl, rfl⟩ := hcut
      rename_i K9 hK9
      refine hK9 _ _ ?_
      clear hK9 K9
      refine wp_seq_k (fun K9 hK9 => ?_)
      go_cut [8] from 33 to 60 (fun c wx => c = .int .i64 (e : Int) ∧ wx = wc)
      case first =>
        by_cases h58 : N < lo + 58
        · have t1 : decide ((N : Int) < (lo : Int) + 58) = true := decide_eq_true (by omega)
          have he2 : N = e := by rw [HE.out]; exact (Nat.min_eq_right (by omega)).symm
          have t1n : decide (N < lo + 58) = true := decide_eq_true h58
          have HE2 := Hid.mk' he2
          clear h58 he2
          go_wp2_with fail
          go_meet
          case rel => exact ⟨by rw [HE2.out], rfl⟩
        · have t1 : decide ((N : Int) < (lo : Int) + 58) = false := decide_eq_false (by omega)
          have he2 : e = lo + 58 := by rw [HE.out]; exact Nat.min_eq_left (by omega)
          have t1n : decide (N < lo + 58) = false := decide_eq_false h58
          have HE2 := Hid.mk' he2
          clear h58 he2
          go_wp2_with fail
          go_meet
          case rel => exact ⟨by rw [HE2.out]; go_num, rfl⟩
      obtain ⟨rfl, rfl⟩ := hcut
      refine hK9 _ _ ?_
      clear hK9 K9
      refine wp_seq_k (fun K9 hK9 => ?_)
      obtain ⟨LL, hLL⟩ : ∃ A, A = rowsR u6 q L := ⟨_, rfl⟩
      rw [← hLL] at H18
      have HLL := Hid.mk' hLL
      clear hLL
      have hj8 : ((UInt8.ofNat j).toNat : Int) = (j : Int) := by rw [UInt8.toNat_ofNat']; omega
      have hjw : IntKind.u8.wrap (j : Int) = (j : Int) := by simp [IntKind.wrap, IntKind.signed, IntKind.bits]; omega
      have hele : lo ≤ e ∧ e ≤ N ∧ e ≤ lo + 58 := by have := HE.out; omega
      have hsub := RdB.sub (Rd.le HSC.out (le15.trans le3)) lo e cs_ hele.1 (by rw [← HN.out]; exact hele.2.1) (by omega) (Nat.le_refl _)
      have h4 : (bt.drop lo).take (e - lo) = partC bt j := by
        rw [partC, HLO.out]
        have hlo := HLO.out
        have he := HE.out
        by_cases h : lo + 58 ≤ N
        · congr 1; omega
        · rw [List.take_of_length_le (by rw [List.length_drop, ← HN.out]; omega), List.take_of_length_le (by rw [List.length_drop, ← HN.out]; omega)]
      rw [h4] at hsub
      have HSUB := Hid.mk' hsub
      have HPL : Hid ((partC bt j).length ≤ 58) := Hid.mk' (by rw [partC_len]; omega)
      have i1 : (0 : Int) ≤ (lo : Int) := by omega
      have i2 : (lo : Int) ≤ (e : Int) := by omega
      have i3 : (e : Int) ≤ (cs_ : Int) := by omega
      clear hsub h4 hele
      go_wp2_with (with_reducible refine stop_append ?_)
      have H19 := blkB (n := 2) (H18.alloc #[.int .u8 98, .int .u8 (j : Int)] tU8) [98, UInt8.ofNat j] (by
        show [Value.int .u8 98, Value.int .u8 (j : Int)] = [Value.int .u8 ((98 : UInt8).toNat : Int), Value.int .u8 ((UInt8.ofNat j).toNat : Int)]
        rw [hj8]; rfl) rfl (by simp)
      refine Hold.go (wpList_appendB (l := [98, UInt8.ofNat j]) (k := partC bt j) rfl _ _ rfl rfl rfl H19 (Rd.world HSUB.out H19) (by have := HPL.out; simp; omega) ?_)
      intro v20 w20 H20
      obtain ⟨bd, hbd⟩ : ∃ x, x = [98, UInt8.ofNat j] ++ partC bt j := ⟨_, rfl⟩
      rw [← hbd] at H20
      have hbl : bd.length ≤ 60 := by rw [hbd, List.length_append]; have := HPL.out; simp; omega
      have HBD : Hid (bd = bodyC bt j) := Hid.mk' hbd
      obtain ⟨R21, le21, H21, hr21⟩ := H20.freezeRow
      clear H18 H19 H20 hbd hj8 hjw i1 i2 i3 hloi
      go_upto_region 14 with fail
      go_wp2_with fail
      refine (rsseal_spec H21 hr21 hbl).mono ?_
      rintro e22 w22 ⟨o22, rfl, H22⟩
      rw [HBD.out, HLL.out] at H22
      obtain ⟨a22, c22, rfl⟩ := H22.rowRd.form
      obtain ⟨SB, hSB⟩ : ∃ S, S = sealS (bodyC bt j) := ⟨_, rfl⟩
      rw [← hSB] at H22 ⊢
      have HSBB := Hid.mk' hSB
      clear hSB H21 hr21 hbl
      go_wp2_with (with_reducible refine stop_append ?_)
      have H23 := H22.alloc #[.slice a22 SB.length c22] tBytes
      have hr23 : Rd _ 1 _ 1 _ := (H23.toRow 1 1 1 (Nat.le_refl _) (by simp [maxLen]) rfl).rowRd
      unfold rowsR at H23
      refine Hold.go (wpList_append rfl _ _ rfl undSecs infoBytes rfl (by decide) rfl rfl H23.drop.swap hr23 (by simp [Value.oneCell']) (by simp only [maxLen]; omega) (by omega) ?_)
      intro v24 w24 H24
      clear H22 H23 hr23
      go_wp2_with fail
      go_roundw
      case rel =>
        refine ⟨j + 1, R21, v24, q ++ [(.slice a22 SB.length c22, SB)], by go_num, hlt, rfl, ?_, ?_, le3.trans le21, ?_⟩
        · rw [List.map_append, HQ.out, HPTS.out, HSBB.out]; rfl
        · rw [List.length_append, HQL.out]; simp; omega
        · unfold rowsR
          simp only [List.map_append, List.length_append, List.length_singleton, List.map_cons, List.map_nil, bytesAll_append, bytesAll_one]
          exact H24.ac (by ac_rfl)
      case measure => simp [intOf]; omega
    · have d1 : decide ((j : Int) < (M : Int)) = false := by simp; omega
      have d1n : decide (j < M) = false := by simp; omega
      obtain rfl : j = M := by omega
      go_wp2_with fail
      go_ret
      exact ⟨_, q, rfl, HQ.out, H18.weaken (leA.trans le3)⟩
end Sh
