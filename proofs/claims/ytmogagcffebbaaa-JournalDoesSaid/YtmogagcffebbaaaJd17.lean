/- EntChgs EntMath EntGet JrnRec: joined texts, each with its own sentence below. -/
import Derived.Test.YtmogagcffebbaaaJd16
import Derived.Test.YtmogagcffebbaaaJd12
import Derived.Test.YtmogagcffebbaaaJd4
import Derived.Test.YtmogagcffebbaaaJd10
import Derived.Test.YtmogagcffebbaaaJd8
/- entry.changes. -/
set_option linter.unusedVariables false
set_option linter.unusedSimpArgs false
namespace Sh
open Go Go.RowKit Go.Proofs
attribute [local go_sem ↓] Go.wp_at_zero Go.wp_at_succ
set_option maxHeartbeats 1000000
set_option maxRecDepth 100000

def chs (b : List UInt8) : List En × PSt := chsP (pNum 2 (b, false)).1 (pNum 2 (b, false)).2 []
theorem flat_snoc (cs : List Ch) (x : Ch) : (cs ++ [x]).flatMap Ch.cells = cs.flatMap Ch.cells ++ x.cells := by
  rw [List.flatMap_append]; simp
set_option maxHeartbeats 4000000
theorem changes_spec {w : World} {R : Snap} {L : Asrt} {v : Value} {b : List UInt8} (H : Holds w R L) (hr : RdB R.cell? v b) (hb : b.length ≤ 2950) :
    Calls Try.prog 149 #[v] w fun e w' => ∃ (R' : Snap) (o : Value) (cs : List Ch), R.le R' ∧ e = .returned (.tuple #[o, .bool (!(chs b).2.2 && decide ((chs b).2.1.length = 0))]) ∧ RdC R'.cell? o cs ∧ conC cs = (chs b).1 ∧ SzC cs ∧ Holds w' R' L := by
  obtain ⟨a, c, rfl⟩ := hr.form
  go_enter Try.func149, Try.ntmps149
  go_wp2_with fail
  refine (read_spec H hr).mono ?_
  rintro e w2 ⟨p3, rfl, H2⟩
  go_wp2_with fail
  refine (rd_num (s := (b, false)) (k := 2) (by decide) H2 hr).mono ?_
  rintro e w3 ⟨v3, rfl, H3, hr3⟩
  have hl3 := pNum_le 2 (b, false)
  have hk3 := pNum2_lt (b, false)
  obtain ⟨a1, ha⟩ : ∃ a, a = pNum 2 (b, false) := ⟨_, rfl⟩
  have HCH : Hid (chs b = chsP a1.1 a1.2 []) := Hid.mk' (by rw [ha]; rfl)
  have HEA : Hid (Eaten b.length 0 a1.2) := Hid.mk' ⟨by omega, fun _ => by rw [ha]; have := hl3; simp only at this; omega⟩
  rw [← ha] at H3 hr3 hl3 hk3 ⊢
  simp only at hl3
  obtain ⟨N0, hN0⟩ : ∃ N0, N0 = b.length := ⟨_, rfl⟩
  have HN0 := Hid.mk' hN0
  rw [← hN0] at hb hl3
  clear H2 H hr ha hN0
  go_wp2_with fail
  go_loopw [5, 6] (fun o i wx => ∃ (k : Nat) (s : PSt) (R' : Snap) (cs : List Ch) (v' : Value), i = .int .i64 (k : Int) ∧ k ≤ 65535 ∧ R.le R' ∧ Hid (chs b = chsP k s (conC cs)) ∧ Hid (Eaten b.length cs.length s) ∧ s.1.length ≤ N0 ∧ Hid (∀ x ∈ cs, x.data.length ≤ 64) ∧ Hid (∀ x ∈ cs, RdB R'.cell? x.v x.data) ∧ Hid (RdB R'.cell? v' s.1) ∧ Holds wx R' (star (row tChg 2 o cs.length (cs.flatMap Ch.cells)) (star (blk p3 #[v', .bool s.2] rdrT) L))) (fun _ i _ => (intOf i).toNat)
  case atStart => exact ⟨a1.1, a1.2, R, [], v3, rfl, by omega, Snap.le.refl _, HCH, HEA, hl3, Hid.mk' (fun _ h => by cases h), Hid.mk' (fun _ h => by cases h), Hid.mk' hr3, H3.nilRow _ 2⟩
  case round =>
    clear H3 hr3 hl3 hk3 HCH HEA
    obtain ⟨k, s, R4, cs, v4, rfl, hk, le4, hC, hE, hsl, hD, hRD, hR4, H4⟩ := hrel
    obtain ⟨ao, co, rfl⟩ := H4.rowRd.form
    by_cases hk0 : 0 < k
    · have d1 : decide ((0 : Int) < (k : Int)) = true := by simp; omega
      have d1n : decide (0 < k) = true := by simp; omega
      obtain ⟨m, rfl⟩ : ∃ m, k = m + 1 := ⟨k - 1, by omega⟩
      have hcl : cs.length ≤ 985 := by have := hE.out.1; have := HN0.out; omega
      go_wp2_with fail
      refine (rgood_spec H4.swap).mono ?_
      rintro e w5 ⟨rfl, rfl⟩
      obtain ⟨sb, hsb⟩ : ∃ x, s.2 = x := ⟨_, rfl⟩
      have HSB := Hid.mk' hsb
      rw [hsb]
      clear hsb
      cases sb with
      | true =>
        go_wp2_with fail
        have HCC : Hid (chs b = (conC cs, s)) := Hid.mk' (by rw [hC.out, chsP_bad HSB.out])
        refine (rdone_spec (rest := s.1) H4.swap hR4.out).mono ?_
        rintro e w6 ⟨rfl, rfl⟩
        obtain ⟨dn, hdn⟩ : ∃ x, x = (!s.2 && decide (s.1.length = 0)) := ⟨_, rfl⟩
        rw [← hdn]
        have HDN := Hid.mk' hdn
        clear hdn
        go_wp2_with fail
        go_ret2
        obtain ⟨R7, le7, H7, hr7⟩ := H4.freezeRow
        exact ⟨R7, _, cs, le4.trans le7, by rw [HCC.out, HDN.out]; rfl, ⟨hr7, fun x hx => Rd.le (hRD.out x hx) le7⟩, by rw [HCC.out], ⟨by omega, fun x hx => by have := hD.out x hx; omega⟩, H7.drop⟩
      | false =>
        go_wp2_with fail
        refine (rd_num (s := s) (k := 2) (by decide) H4.swap hR4.out).mono ?_
        rintro e w6 ⟨v6, rfl, H6, hr6⟩
        have hl6 := Nat.le_trans (pNum_le 2 s) hsl
        obtain ⟨a2, ha⟩ : ∃ a, a = pNum 2 s := ⟨_, rfl⟩
        rw [← ha] at H6 hr6 hl6 ⊢
        have A2 := Hid.mk' ha
        have HR6 := Hid.mk' hr6
        clear ha H4 hr6
        have H7 := (H6.alloc #[.int .i64 ((a2.1 : Nat) : Int), .slice none 0 0] tChg).swap
        go_upto_region 7 with fail
        generalize (World.alloc ..) = w7 at H7 ⊢
        generalize w6.heap.size = g at H7 ⊢
        clear H6
        go_wp2_with fail
        refine (rd_num (s := a2.2) (k := 1) (by decide) H7 HR6.out).mono ?_
        rintro e w8 ⟨v8, rfl, H8, hr8⟩
        have hl8 := Nat.le_trans (pNum_le 1 a2.2) hl6
        obtain ⟨a3, ha⟩ : ∃ a, a = pNum 1 a2.2 := ⟨_, rfl⟩
        rw [← ha] at H8 hr8 hl8 ⊢
        have A3 := Hid.mk' ha
        have HR8 := Hid.mk' hr8
        have HE3 : Hid (Eaten b.length (cs.length + 1) a3.2) := Hid.mk' (by rw [ha, A2.out]; exact hE.out.num HSB.out)
        clear ha H7 hr8
        by_cases h1 : a3.1 = 1
        · have t1 : (((a3.1 : Nat) : Int) == 1) = true := by rw [beq_iff_eq]; omega
          have HC2 : Hid (chs b = chsP m (pRaw 64 a3.2).2 (conC cs ++ [(((a2.1 : Nat) : Int), (pRaw 64 a3.2).1)])) := Hid.mk' (by
            rw [hC.out, chsP_raw HSB.out (by rw [← A2.out, ← A3.out]; exact h1), ← A2.out, ← A3.out])
          have H1 := Hid.mk' h1
          clear h1
          go_wp2_with fail
          refine (rraw_spec (n := 64) (rest := a3.2.1) (bad := a3.2.2) H8 HR8.out (by omega)).mono ?_
          rintro e w9 ⟨o9, v9, rfl, H9, hr9⟩
          obtain ⟨R10, le10, H10, hr10⟩ := H9.freezeRow
          replace hr10 : RdB R10.cell? o9 (pRaw 64 a3.2).1 := hr10
          obtain ⟨a10, c10, rfl⟩ := hr10.form
          replace hr9 : RdB R10.cell? v9 (pRaw 64 a3.2).2.1 := Rd.le hr9 le10
          replace H10 : Holds w9 R10 (star (blk p3 #[v9, .bool (pRaw 64 a3.2).2.2] rdrT) (star (blk g #[.int .i64 ((a2.1 : Nat) : Int), .slice none 0 0] tChg) (star (row tChg 2 (.slice ao cs.length co) cs.length (cs.flatMap Ch.cells)) L))) := H10
          obtain ⟨q, hq⟩ : ∃ q, q = pRaw 64 a3.2 := ⟨_, rfl⟩
          have HE4 : Hid (Eaten b.length (cs.length + 1) q.2) := Hid.mk' (by rw [hq]; exact HE3.out.raw)
          have hq64 : q.1.length ≤ 64 := by rw [hq]; exact cutOut_64 _ _
          have hql : q.2.1.length ≤ N0 := by rw [hq]; exact Nat.le_trans (cutRest_le _ _ _) hl8
          rw [← hq] at HC2 hr10 H10 hr9 ⊢
          have HR10 := Hid.mk' hr10
          have HR9 := Hid.mk' hr9
          have HQ64 := Hid.mk' hq64
          obtain ⟨ql, hqll⟩ : ∃ n, n = q.1.length := ⟨_, rfl⟩
          have HQLL := Hid.mk' hqll
          rw [← hqll]
          clear H8 H9 hq hr9 hr10 hq64 hqll
          obtain ⟨l8, n8, c8, z8⟩ := Holds.facts (H10.swap)
          go_upto_region 9 with fail
          have H11a := (H10.swap.set 1 (.slice a10 ql c10))
          replace H11a : Holds _ R10 (star (blk g #[.int .i64 ((a2.1 : Nat) : Int), .slice a10 ql c10] tChg) (star (blk p3 #[v9, .bool q.2.2] rdrT) (star (row tChg 2 (.slice ao cs.length co) cs.length (cs.flatMap Ch.cells)) L))) := H11a
          generalize (World.setCell ..) = w11 at H11a ⊢
          clear l8 n8 c8 z8 H10
          have H10 := H11a
          clear H11a
          obtain ⟨l9, n9, c9, z9⟩ := Holds.facts (H10)
          go_upto_region 9 with fail
          go_wp2_with (with_reducible refine stop_append ?_)
          have H11 := H10.alloc #[.int .i64 ((a2.1 : Nat) : Int), .slice a10 ql c10] tChg
          have hr11 := (H11.toRow 2 1 1 (Nat.le_refl _) (by decide) rfl).rowRd
          refine Hold.go (wpList_append rfl _ _ rfl undChgs infoChg rfl (by decide) rfl rfl H11.drop.pick3 hr11 (by simp [Value.oneCell']) (by simp only [maxLen]; omega) (by omega) ?_)
          intro v12 w12 H12
          clear l9 n9 c9 z9 hr11 H11
          go_wp2_with fail
          go_roundw
          case rel =>
            refine ⟨m, q.2, R10, cs ++ [⟨((a2.1 : Nat) : Int), .slice a10 ql c10, q.1⟩], v9, by go_num, by omega, le4.trans le10, Hid.mk' ?_, Hid.mk' ?_, hql, Hid.mk' (fun x hx => ?_), Hid.mk' (fun x hx => ?_), Hid.mk' ?_, ?_⟩
            · rw [HC2.out]; simp [conC]
            · rw [List.length_append]; exact HE4.out
            · rcases List.mem_append.1 hx with h | h
              · exact hD.out x h
              · obtain rfl := List.mem_singleton.1 h
                exact HQ64.out
            · rcases List.mem_append.1 hx with h | h
              · exact Rd.le (hRD.out x h) le10
              · obtain rfl := List.mem_singleton.1 h
                have h2 := HR10.out
                rw [← HQLL.out] at h2
                show RdB R10.cell? (.slice a10 ql c10) q.1
                exact h2
            · exact HR9.out
            · rw [flat_snoc, List.length_append]
              exact H12.swap.drop
          case measure => simp [intOf]
        · have t1 : (((a3.1 : Nat) : Int) == 1) = false := by rw [beq_eq_false_iff_ne]; omega
          have HC2 : Hid (chs b = chsP m a3.2 (conC cs ++ [(((a2.1 : Nat) : Int), [])])) := Hid.mk' (by
            rw [hC.out, chsP_no HSB.out (by rw [← A2.out, ← A3.out]; exact h1), ← A2.out, ← A3.out])
          have H1 := Hid.mk' h1
          clear h1
          have H10 := H8.swap
          clear H8
          obtain ⟨l9, n9, c9, z9⟩ := Holds.facts (H10)
          go_upto_region 9 with fail
          go_wp2_with (with_reducible refine stop_append ?_)
          have H11 := H10.alloc #[.int .i64 ((a2.1 : Nat) : Int), .slice none 0 0] tChg
          have hr11 := (H11.toRow 2 1 1 (Nat.le_refl _) (by decide) rfl).rowRd
          refine Hold.go (wpList_append rfl _ _ rfl undChgs infoChg rfl (by decide) rfl rfl H11.drop.pick3 hr11 (by simp [Value.oneCell']) (by simp only [maxLen]; omega) (by omega) ?_)
          intro v12 w12 H12
          clear l9 n9 c9 z9 hr11 H11
          go_wp2_with fail
          go_roundw
          case rel =>
            refine ⟨m, a3.2, R4, cs ++ [⟨((a2.1 : Nat) : Int), .slice none 0 0, []⟩], v8, by go_num, by omega, le4, Hid.mk' ?_, Hid.mk' ?_, hl8, Hid.mk' (fun x hx => ?_), Hid.mk' (fun x hx => ?_), HR8, ?_⟩
            · rw [HC2.out]; simp [conC]
            · rw [List.length_append]; exact HE3.out
            · rcases List.mem_append.1 hx with h | h
              · exact hD.out x h
              · obtain rfl := List.mem_singleton.1 h
                exact Nat.zero_le _
            · rcases List.mem_append.1 hx with h | h
              · exact hRD.out x h
              · obtain rfl := List.mem_singleton.1 h
                exact Rd.nil
            · rw [flat_snoc, List.length_append]
              exact H12.swap.drop
          case measure => simp [intOf]
    · have d1 : decide ((0 : Int) < (k : Int)) = false := by simp; omega
      have d1n : decide (0 < k) = false := by simp; omega
      have hk00 : k = 0 := by omega
      have HCC : Hid (chs b = (conC cs, s)) := Hid.mk' (by rw [hC.out, hk00]; rfl)
      have hcl : cs.length ≤ 985 := by have := hE.out.1; have := HN0.out; omega
      have HX := Hid.mk' hk00
      clear hk00
      go_wp2_with fail
      refine (rdone_spec (rest := s.1) H4.swap hR4.out).mono ?_
      rintro e w6 ⟨rfl, rfl⟩
      obtain ⟨dn, hdn⟩ : ∃ x, x = (!s.2 && decide (s.1.length = 0)) := ⟨_, rfl⟩
      rw [← hdn]
      have HDN := Hid.mk' hdn
      clear hdn
      go_wp2_with fail
      go_ret2
      obtain ⟨R7, le7, H7, hr7⟩ := H4.freezeRow
      exact ⟨R7, _, cs, le4.trans le7, by rw [HCC.out, HDN.out]; rfl, ⟨hr7, fun x hx => Rd.le (hRD.out x hx) le7⟩, by rw [HCC.out], ⟨by omega, fun x hx => by have := hD.out x hx; omega⟩, H7.drop⟩
end Sh
/- Changes' sectors: the plain law: what is put is read back. -/
set_option linter.unusedVariables false
set_option linter.unusedSimpArgs false
namespace Sh
open Go Go.RowKit Go.Proofs
attribute [local go_sem ↓] Go.wp_at_zero Go.wp_at_succ
set_option maxHeartbeats 1000000
set_option maxRecDepth 100000

theorem pRaw_pre (x y : List UInt8) {n : Nat} (h : n = x.length) : pRaw n (x ++ y, false) = (x, (y, false)) := by
  obtain ⟨h1, h2, h3⟩ := cut_yes (rest := x ++ y) (n := n) (by rw [List.length_append]; omega)
  rw [List.take_left' h.symm] at h2
  rw [List.drop_left' h.symm] at h3
  simp only [pRaw, h1, h2, h3]; rfl
theorem chsP_text : ∀ (E : List En) (rest : List UInt8) (acc : List En), E.all (fun c => placeC c.1) = true → E.all (fun c => formC c.2) = true → chsP E.length (E.flatMap entC ++ rest, false) acc = (acc ++ E, (rest, false))
  | [], rest, acc, _, _ => by simp [chsP]
  | (a, d) :: E, rest, acc, h1, h2 => by
    rw [List.all_cons, Bool.and_eq_true] at h1 h2
    have ha : 0 ≤ a ∧ a < 65536 := by have := h1.1; simp [placeC] at this; omega
    have hd : d.length = 0 ∨ d.length = 64 := by have := h2.1; simp [formC] at this; rcases this with h | h <;> simp [h]
    have e : (((a, d) :: E).flatMap entC ++ rest) = nb 2 a ++ (nb 1 (min d.length 1 : Nat) ++ (d ++ (E.flatMap entC ++ rest))) := by
      rw [List.flatMap_cons, entC]; simp only [List.append_assoc]
    rw [e, List.length_cons]
    obtain ⟨p1, p2⟩ := num_at (k := 2) (s := (nb 2 a ++ (nb 1 (min d.length 1 : Nat) ++ (d ++ (E.flatMap entC ++ rest))), false)) (n := a) rfl (by decide) ha.1 (show a < 256 ^ 2 by omega)
    obtain ⟨q1, q2⟩ := num_at (k := 1) p2 (by decide) (by omega) (show ((min d.length 1 : Nat) : Int) < 256 ^ 1 by omega)
    rcases hd with hd | hd
    · rw [chsP_no rfl (by intro h; omega), q2, p1]
      obtain rfl : d = [] := List.eq_nil_of_length_eq_zero hd
      rw [List.nil_append, chsP_text E rest _ h1.2 h2.2]; simp
    · rw [chsP_raw rfl (by omega), q2, p1, pRaw_pre d _ hd.symm, chsP_text E rest _ h1.2 h2.2]; simp
theorem chs_text {E : List En} (h : checkC E = 0) (rest : List UInt8) : chs (textC E ++ rest) = (E, (rest, false)) := by
  obtain ⟨h1, h2, h3, h4⟩ := checkC_ok h
  have h5 := sizeC_len E
  rw [chs, textC, List.append_assoc]
  obtain ⟨p1, p2⟩ := num_at (k := 2) (s := (nb 2 (E.length : Nat) ++ (E.flatMap entC ++ rest), false)) (n := (E.length : Nat)) rfl (by decide) (by omega) (show ((E.length : Nat) : Int) < 256 ^ 2 by omega)
  rw [p2, show (pNum 2 (nb 2 (E.length : Nat) ++ (E.flatMap entC ++ rest), false)).1 = E.length by omega, chsP_text E rest [] h1 h3, List.nil_append]
theorem headC_open (b : List UInt8) : openOk (sealS (headC b)) = true ∧ headC b <+: openP (sealS (headC b)) := by
  have hl : (headC b).length ≤ 60 := by rw [headC_len]; omega
  obtain ⟨o1, o2⟩ := open_seal hl
  refine ⟨o1, ?_⟩
  rw [o2, padTo60, List.take_of_length_le hl]
  exact ⟨_, rfl⟩
theorem headC_parse {b p : List UInt8} (hb : b.length ≤ 1856) (hp : headC b <+: p) : (pNum 1 (p.drop 1, false)).1 = partsN b.length ∧ (pNum 2 (pNum 1 (p.drop 1, false)).2).1 = b.length := by
  obtain ⟨t, ht⟩ := hp
  have hd : p.drop 1 = nb 1 (partsN b.length : Nat) ++ (nb 2 (b.length : Nat) ++ (nb 4 (tn (crcOf b)) ++ t)) := by
    rw [← ht, headC]
    simp only [List.append_assoc]
    have : (nb 1 106).length = 1 := by rw [nb_length]; rfl
    exact List.drop_left' this
  obtain ⟨p1, p2⟩ := num_at (k := 1) (s := (p.drop 1, false)) (n := (partsN b.length : Nat)) (by rw [hd]; rfl) (by decide) (by omega) (show ((partsN b.length : Nat) : Int) < 256 ^ 1 by unfold partsN; omega)
  obtain ⟨q1, q2⟩ := num_at (k := 2) p2 (by decide) (by omega) (show ((b.length : Nat) : Int) < 256 ^ 2 by omega)
  exact ⟨by omega, by omega⟩
def pad58 (l : List UInt8) : List UInt8 := l ++ List.replicate (58 - l.length) 0
theorem body_txt2 (b : List UInt8) (i : Nat) : openOk (sealS (bodyC b i)) = true ∧ txt2 (sealS (bodyC b i)) = pad58 (partC b i) := by
  have hl := bodyC_len b i
  obtain ⟨o1, o2⟩ := open_seal hl
  refine ⟨o1, ?_⟩
  rw [txt2, o2, padTo60, List.take_of_length_le hl]
  show ((98 :: UInt8.ofNat i :: partC b i) ++ _).drop 2 = _
  rw [pad58]
  show partC b i ++ (List.replicate 60 (0 : UInt8)).drop (98 :: UInt8.ofNat i :: partC b i).length = _
  rw [List.drop_replicate, List.length_cons, List.length_cons]
  congr 2
  omega
theorem parts_all (b : List UInt8) : ∀ n, (List.range n).flatMap (fun i => pad58 (partC b i)) = b.take (58 * n) ++ List.replicate (58 * n - b.length) 0
  | 0 => by simp
  | n + 1 => by
    rw [List.range_succ, List.flatMap_append, parts_all b n, List.flatMap_cons, List.flatMap_nil, List.append_nil, pad58, partC_len, partC]
    by_cases h : 58 * n ≤ b.length
    · rw [show 58 * n - b.length = 0 by omega, List.replicate_zero, List.append_nil, ← List.append_assoc, show 58 * (n + 1) = 58 * n + 58 by omega, List.take_add]
      congr 2
      omega
    · rw [List.drop_of_length_le (by omega), List.take_of_length_le (l := b) (by omega), List.take_of_length_le (l := b) (by omega)]
      rw [List.take_nil, List.nil_append, List.append_assoc, List.replicate_append_replicate]
      congr 2
      omega
theorem parts_end (b : List UInt8) : ∃ k, (List.range (partsN b.length)).flatMap (fun i => pad58 (partC b i)) = b ++ List.replicate k 0 := by
  refine ⟨58 * partsN b.length - b.length, ?_⟩
  rw [parts_all, List.take_of_length_le (by unfold partsN; omega)]
theorem putC_len (E : List En) : (putC E).length = 1 + partsN (textC E).length := by simp [putC]; omega
/-- What the sectors begin with says the changes. -/
theorem putC_says {E : List En} {ss : List (List UInt8)} (h : checkC E = 0) (hp : putC E <+: ss) : ∃ s0 rest, ss = s0 :: rest ∧ openOk s0 = true ∧ headC (textC E) <+: openP s0 ∧ partsN (textC E).length ≤ rest.length ∧
    (∃ k, gathC (rest.take (partsN (textC E).length)) = textC E ++ List.replicate k 0) ∧ ∃ junk, (rest.filter openOk).flatMap txt2 = textC E ++ junk := by
  obtain ⟨t, ht⟩ := hp
  obtain ⟨k, hk⟩ := parts_end (textC E)
  have hall : ∀ x ∈ (List.range (partsN (textC E).length)).map (fun i => sealS (bodyC (textC E) i)), openOk x = true := by
    intro x hx
    obtain ⟨i, _, rfl⟩ := List.mem_map.1 hx
    exact (body_txt2 _ i).1
  have hfl : ((List.range (partsN (textC E).length)).map (fun i => sealS (bodyC (textC E) i))).flatMap txt2 = textC E ++ List.replicate k 0 := by
    rw [List.flatMap_map, ← hk]
    exact flatMap_congr' fun i _ => (body_txt2 _ i).2
  refine ⟨sealS (headC (textC E)), ((List.range (partsN (textC E).length)).map fun i => sealS (bodyC (textC E) i)) ++ t, by rw [← ht]; rfl, (headC_open _).1, (headC_open _).2, by simp, ⟨k, ?_⟩, ⟨List.replicate k 0 ++ (t.filter openOk).flatMap txt2, ?_⟩⟩
  · rw [List.take_left' (by simp), gathC, if_pos (List.all_eq_true.2 hall), hfl]
  · rw [List.filter_append, List.flatMap_append, List.filter_eq_self.2 hall, hfl, List.append_assoc]
def GotC (ss : List (List UInt8)) (M : List En) (ok : Bool) : Prop := (ok = true ∧ checkC M = 0 ∧ putC M <+: ss) ∨ (ok = false ∧ M = [] ∧ ∀ E, checkC E = 0 → ¬ putC E <+: ss)
theorem putC_one {E F : List En} {ss : List (List UInt8)} (hE : checkC E = 0) (hF : checkC F = 0) (h1 : putC E <+: ss) (h2 : putC F <+: ss) : E = F := by
  obtain ⟨s0, rest, e1, _, _, _, _, j1, g1⟩ := putC_says hE h1
  obtain ⟨s1, rest1, e2, _, _, _, _, j2, g2⟩ := putC_says hF h2
  rw [e1] at e2
  obtain ⟨rfl, rfl⟩ := List.cons.inj e2
  have e := g1.symm.trans g2
  have c1 := chs_text hE j1
  rw [e, chs_text hF j2] at c1
  exact (Prod.mk.inj c1).1.symm
theorem GotC.one {ss : List (List UInt8)} {M M' : List En} {ok ok' : Bool} (h : GotC ss M ok) (h' : GotC ss M' ok') : M = M' ∧ ok = ok' := by
  rcases h with ⟨rfl, h1, h2⟩ | ⟨rfl, h1, h2⟩ <;> rcases h' with ⟨rfl, k1, k2⟩ | ⟨rfl, k1, k2⟩
  · exact ⟨putC_one h1 k1 h2 k2, rfl⟩
  · exact absurd h2 (k2 _ h1)
  · exact absurd k2 (h2 _ k1)
  · exact ⟨h1.trans k1.symm, rfl⟩
end Sh
/- entry.Get. -/
set_option linter.unusedVariables false
set_option linter.unusedSimpArgs false
namespace Sh
open Go Go.RowKit Go.Proofs
attribute [local go_sem ↓] Go.wp_at_zero Go.wp_at_succ
set_option maxHeartbeats 1000000
set_option maxRecDepth 100000

set_option maxHeartbeats 8000000
theorem entGet_spec {w : World} {R : Snap} {L : Asrt} {p : Nat} {v : Value} {ss : List (Value × List UInt8)} {PO : Ending → World → Prop} (H : Holds w R L) (hcy : L.celly) (hT : R.blk p = some (.cells (rowC 256) tabT (0, 0))) (hr : RdBB R.cell? v ss) (hn : ss.length ≤ 50)
    (k : ∀ R' (o : Value) (cs : List Ch) (ok : Bool) w', R.le R' → GotC (ss.map Prod.snd) (conC cs) ok → RdC R'.cell? o cs → SzC cs → Holds w' R' L → PO (.returned (.tuple #[o, .bool ok])) w') :
    Calls Try.prog 66 #[.pointer (some ⟨p, 0, none⟩), v] w PO := by
  obtain ⟨bss, hbss⟩ : ∃ bss, bss = ss.map Prod.snd := ⟨_, rfl⟩
  rw [← hbss] at k
  have HK := Hid.mk' k
  have HF : Hid (∀ (R' : Snap) (w' : World), R.le R' → (∀ E, checkC E = 0 → ¬ putC E <+: bss) → Holds w' R' L → PO (.returned (.tuple #[.slice none 0 0, .bool false])) w') := Hid.mk' (fun R' w' h1 h2 h3 =>
    k R' (.slice none 0 0) [] false w' h1 (.inr ⟨rfl, rfl, h2⟩) ⟨Rd.nil, fun _ h => by cases h⟩ ⟨Nat.zero_le _, fun _ h => by cases h⟩ h3)
  clear k
  obtain ⟨a, c, rfl⟩ := hr.form
  have hB := hr.bounds
  obtain ⟨N, hN⟩ : ∃ N, N = ss.length := ⟨_, rfl⟩
  have HR := Hid.mk' hr
  have HN := Hid.mk' hN
  have HBS := Hid.mk' hbss
  rw [← hN] at hB hn ⊢
  obtain ⟨hB1, hB2⟩ := hB
  clear hr hN hbss
  go_enter Try.func66, Try.ntmps66
  go_upto_region 1 with fail
  by_cases h0 : N = 0
  · subst h0
    go_wp2_with fail
    refine HF.out R _ (Snap.le.refl _) (fun E h1 h2 => ?_) H
    have := h2.length_le
    rw [putC_len, HBS.out, List.length_map, ← HN.out] at this
    omega
  have t0 : ((N : Int) == 0) = false := by rw [beq_eq_false_iff_ne]; omega
  obtain ⟨⟨v0, b0⟩, tl, rfl⟩ : ∃ x tl, ss = x :: tl := by
    cases ss with
    | nil => exact absurd HN.out h0
    | cons x tl => exact ⟨x, tl, rfl⟩
  obtain ⟨b1, o1, ha, hc, hq⟩ := RdBB.at HR.out (j := 0) (by simp)
  subst ha
  replace hc : R.cell? ⟨b1, o1, none⟩ = some v0 := hc
  replace hq : RdB R.cell? v0 b0 := hq
  replace hc := H.cell hc
  obtain ⟨a0, c0, rfl⟩ := hq.form
  have HQ := Hid.mk' hq
  have i1 : (0 : Int) < (N : Int) := by omega
  have i2 : 0 < N := by omega
  have htl : tl.length = N - 1 := by have := HN.out; simp at this; omega
  have HTL := Hid.mk' htl
  have hbs0 : bss = b0 :: tl.map Prod.snd := by rw [HBS.out]; rfl
  have HB0 := Hid.mk' hbs0
  clear hq h0 htl hbs0
  go_wp2_with fail
  refine (sopen_spec H hT HQ.out).mono ?_
  rintro e w2 ⟨o2, rfl, H2⟩
  clear H hc
  obtain ⟨ok, hok⟩ : ∃ ok, openOk b0 = ok := ⟨_, rfl⟩
  have HOK := Hid.mk' hok
  rw [hok]
  clear hok
  cases ok with
  | false =>
    go_wp2_with fail
    refine HF.out R _ (Snap.le.refl _) (fun E h1 h2 => ?_) H2.drop
    rw [HB0.out] at h2
    obtain ⟨s0, rest, e, e2, _⟩ := putC_says h1 h2
    obtain ⟨rfl, _⟩ := List.cons.inj e
    rw [HOK.out] at e2; cases e2
  | true =>
  obtain ⟨R3, le3, H3, hr3⟩ := H2.freezeRow
  obtain ⟨pl, hpl⟩ : ∃ pl, pl = openP b0 := ⟨_, rfl⟩
  have hl60 := openOk_len HOK.out
  rw [← hpl] at hl60
  replace hr3 : RdB R3.cell? o2 pl := by rw [hpl]; exact hr3
  obtain ⟨a2, c2, rfl⟩ := hr3.form
  have hc60 := (Rd.bounds hr3).1
  rw [hl60] at hc60
  have hsub := RdB.sub hr3 1 60 c2 (by decide) (by omega) (by omega) (Nat.le_refl _)
  rw [List.take_of_length_le (by rw [List.length_drop]; omega)] at hsub
  have HSUB := Hid.mk' hsub
  have HPL := Hid.mk' hpl
  have HL60 := Hid.mk' hl60
  simp only [hl60]
  clear H2 hpl hr3 hl60 hsub
  have hT3 := le3.blk _ _ hT
  go_wp2_with fail
  refine (read_spec H3 HSUB.out).mono ?_
  rintro e w4 ⟨p4, rfl, H4⟩
  clear H3
  go_wp2_with fail
  refine (rd_num (s := (pl.drop 1, false)) (k := 1) (by decide) H4 HSUB.out).mono ?_
  rintro e w5 ⟨v5, rfl, H5, hr5⟩
  obtain ⟨q1, ha⟩ : ∃ a, a = pNum 1 (pl.drop 1, false) := ⟨_, rfl⟩
  have hn255 : q1.1 < 256 := by rw [ha]; exact pNum1_lt _
  rw [← ha] at H5 hr5 ⊢
  have Q1 := Hid.mk' ha
  clear H4 ha
  go_wp2_with fail
  refine (rd_num (s := q1.2) (k := 2) (by decide) H5 hr5).mono ?_
  rintro e w6 ⟨v6, rfl, H6, hr6⟩
  have H7 := H6.drop
  clear H5 H6 hr5 hr6
  obtain ⟨n, hnn⟩ : ∃ n, n = q1.1 := ⟨_, rfl⟩
  obtain ⟨lg, hlg⟩ : ∃ n, n = (pNum 2 q1.2).1 := ⟨_, rfl⟩
  have hlg9 : lg < 65536 := by rw [hlg]; exact pNum2_lt _
  rw [← hnn, ← hlg]
  rw [← hnn] at hn255
  -- whoever begins the sectors says so
  have hsays : ∀ E, checkC E = 0 → putC E <+: bss → n = partsN (textC E).length ∧ lg = (textC E).length ∧ n ≤ tl.length ∧ ∃ k, gathC ((tl.map Prod.snd).take n) = textC E ++ List.replicate k 0 := fun E h1 h2 => by
    rw [HB0.out] at h2
    obtain ⟨s0, rest, e, e2, e3, e4, e5, _⟩ := putC_says h1 h2
    obtain ⟨rfl, rfl⟩ := List.cons.inj e
    rw [← HPL.out] at e3
    obtain ⟨c1, c2⟩ := headC_parse (by rw [textC_len]; exact (checkC_ok h1).2.2.2) e3
    rw [← Q1.out, ← hnn] at c1
    rw [← Q1.out, ← hlg] at c2
    rw [← c1] at e4 e5
    refine ⟨c1, c2, by simpa using e4, e5⟩
  have HSY := Hid.mk' hsays
  clear hsays hnn hlg
  by_cases hgt : N ≤ n
  · have t1 : decide ((N : Int) ≤ (n : Int)) = true := by simp; omega
    have t1n : decide (N ≤ n) = true := by simp; omega
    go_wp2_with fail
    exact HF.out R3 _ le3 (fun E h1 h2 => by have := (HSY.out E h1 h2).2.2.1; rw [HTL.out] at this; omega) H7
  have t1 : decide ((N : Int) ≤ (n : Int)) = false := by simp; omega
  have t1n : decide (N ≤ n) = false := by simp; omega
  obtain ⟨n1, hn1⟩ : ∃ n1, n1 = n + 1 := ⟨_, rfl⟩
  have hn1i : (n : Int) + 1 = (n1 : Int) := by omega
  have hn1m : n1 - 1 = n := by omega
  have hsub := RdBB.sub HR.out 1 n1 c (by omega) (by have := HN.out; omega) (by omega) (Nat.le_refl _)
  rw [hn1m] at hsub
  have hsb : (((((Value.slice a0 b0.length c0, b0) : Value × List UInt8) :: tl).drop 1).take n).map Prod.snd = (tl.map Prod.snd).take n := by
    rw [List.drop_one, List.tail_cons, List.map_take]
  have hsl : (((((Value.slice a0 b0.length c0, b0) : Value × List UInt8) :: tl).drop 1).take n).length ≤ 1000 := by
    rw [List.length_take]; omega
  have i3 : (n1 : Int) ≤ (c : Int) := by omega
  have i4 : (1 : Int) ≤ (n1 : Int) := by omega
  have HSUB2 := Hid.mk' (hsub.le le3)
  have HSB := Hid.mk' hsb
  have HSL := Hid.mk' hsl
  have HN1 := Hid.mk' hn1
  clear hsb hsl hsub hn1
  go_wp2_with fail
  refine (gather_spec H7 hT3 HSUB2.out HSL.out).mono ?_
  rintro e w8 ⟨o8, rfl, H8⟩
  rw [HSB.out] at H8
  obtain ⟨gb, hgb⟩ : ∃ gb, gb = gathC ((tl.map Prod.snd).take n) := ⟨_, rfl⟩
  rw [← hgb] at H8
  have hgl : gb.length ≤ 2850 := by
    have h1 := gathC_len ((tl.map Prod.snd).take n)
    rw [← hgb] at h1
    have h2 : ((tl.map Prod.snd).take n).length ≤ n := by rw [List.length_take]; omega
    have h3 : 58 * ((tl.map Prod.snd).take n).length ≤ 58 * n := Nat.mul_le_mul_left _ h2
    omega
  obtain ⟨R9, le9, H9, hr9⟩ := H8.freezeRow
  obtain ⟨a9, c9, rfl⟩ := hr9.form
  obtain ⟨gl, hgl2⟩ : ∃ n, n = gb.length := ⟨_, rfl⟩
  have HGB := Hid.mk' hgb
  have HGL := Hid.mk' hgl2
  have hB9 := (Rd.bounds hr9).1
  have HR9 := Hid.mk' hr9
  rw [← hgl2] at hgl hB9 ⊢
  have leA := le3.trans le9
  have hT9 := le9.blk _ _ hT3
  clear H7 H8 hr9 hgb hgl2 HSUB2 HSB HSL
  by_cases hlong : gl < lg
  · have t2 : decide ((gl : Int) < (lg : Int)) = true := by simp; omega
    have t2n : decide (gl < lg) = true := by simp; omega
    go_wp2_with fail
    exact HF.out R9 _ leA (fun E h1 h2 => by
      obtain ⟨_, h3, _, k, h4⟩ := HSY.out E h1 h2
      have h5 := congrArg List.length h4
      rw [← HGB.out, ← HGL.out, List.length_append] at h5
      omega) H9
  have t2 : decide ((gl : Int) < (lg : Int)) = false := by simp; omega
  have t2n : decide (gl < lg) = false := by simp; omega
  obtain ⟨tb, htb⟩ : ∃ tb, tb = gb.take lg := ⟨_, rfl⟩
  have htl2 : tb.length = lg := by rw [htb, List.length_take, ← HGL.out]; omega
  have hrt : RdB R9.cell? (.slice a9 lg c9) tb := by rw [htb]; exact RdB.pre HR9.out lg (by rw [← HGL.out]; omega)
  have HRT := Hid.mk' hrt
  have htb9 : tb.length ≤ 2950 := by omega
  have HTB9 := Hid.mk' htb9
  have HSZ : Hid (∀ E, checkC E = 0 → putC E <+: bss → n = partsN (textC E).length ∧ chs tb = (E, ([], false))) := Hid.mk' (fun E h1 h2 => by
    obtain ⟨h3, h4, _, k, h5⟩ := HSY.out E h1 h2
    refine ⟨h3, ?_⟩
    rw [← HGB.out] at h5
    have h6 : tb = textC E := by rw [htb, h5, h4, List.take_left]
    have h7 := chs_text h1 []
    rw [List.append_nil] at h7
    rw [h6, h7])
  have k1 : (0 : Int) ≤ (lg : Int) := by omega
  have k2 : (lg : Int) ≤ (c9 : Int) := by omega
  clear htb htl2 hrt htb9 HR9 HGB HGL HSY
  go_wp2_with fail
  refine (changes_spec H9 HRT.out HTB9.out).mono ?_
  rintro e w10 ⟨R10, o10, cs, le10, rfl, hrc, hcc, hcz, H10⟩
  obtain ⟨ac, cc, rfl⟩ := hrc.form
  obtain ⟨cl, hcl⟩ : ∃ n, n = cs.length := ⟨_, rfl⟩
  have HRC := Hid.mk' hrc
  have HCC := Hid.mk' hcc
  have HCZ := Hid.mk' hcz
  have HCL := Hid.mk' hcl
  obtain ⟨dn, hdn⟩ : ∃ x, (!(chs tb).2.2 && decide ((chs tb).2.1.length = 0)) = x := ⟨_, rfl⟩
  rw [hdn, ← hcl]
  have HDN := Hid.mk' hdn
  replace leA := leA.trans le10
  have hT10 := le10.blk _ _ hT9
  clear H9 hrc hcc hcz hcl hdn
  cases dn with
  | false =>
    go_wp2_with fail
    exact HF.out R10 _ leA (fun E h1 h2 => by
      have h3 := HDN.out
      rw [(HSZ.out E h1 h2).2] at h3
      cases h3) H10
  | true =>
  have HSE : Hid (∀ E, checkC E = 0 → putC E <+: bss → conC cs = E ∧ n1 = (putC E).length) := Hid.mk' (fun E h1 h2 => by
    obtain ⟨h3, h4⟩ := HSZ.out E h1 h2
    refine ⟨by rw [HCC.out, h4], ?_⟩
    rw [putC_len, HN1.out, h3]; omega)
  obtain ⟨kc, hkc⟩ : ∃ kc, checkC (conC cs) = kc := ⟨_, rfl⟩
  have HKC := Hid.mk' hkc
  clear HSZ HDN HCC
  by_cases hk0 : kc = 0
  · subst hk0
    clear hkc
    go_wp2_with fail
    refine (entPut_ok H10 hcy hT10 (by have h := HRC.out; rw [← HCL.out] at h; exact h) HCZ.out HKC.out).mono ?_
    rintro e w11 ⟨o, q, rfl, hq, H11⟩
    obtain ⟨R12, le12, H12, hqq⟩ := freezeBB H11
    obtain ⟨ao, co, rfl⟩ := hqq.form
    obtain ⟨G, hG⟩ : ∃ G, G = q.length := ⟨_, rfl⟩
    have hpl : (putC (conC cs)).length = G := by rw [← hq, List.length_map, hG]
    have hG9 : G ≤ 100 := by
      have h1 := (checkC_ok HKC.out).2.2.2
      rw [putC_len, textC_len] at hpl
      unfold partsN at hpl; omega
    have HQQ := Hid.mk' hqq
    have HQ2 := Hid.mk' hq
    have HG := Hid.mk' hG
    have HPL2 := Hid.mk' hpl
    simp only [← hG]
    replace leA := leA.trans le12
    clear H10 H11 hqq hq hG hpl
    by_cases hGn : G = n1
    · have t3 : ((G : Int) != (n1 : Int)) = false := by simp; omega
      have HGN := Hid.mk' hGn
      clear hGn
      go_wp2_with fail
      go_loop [77] (fun i => ∃ j : Nat, i = .int .i64 j ∧ j ≤ G ∧ Hid (∀ k, k < j → (putC (conC cs))[k]? = bss[k]?)) (fun i => G - (intOf i).toNat)
      case atStart => exact ⟨0, rfl, Nat.zero_le _, Hid.mk' (fun k h => absurd h (Nat.not_lt_zero k))⟩
      case round =>
        obtain ⟨j, rfl, hj, hA⟩ := hrel
        by_cases hlt : j < G
        · have d1 : decide ((j : Int) < (G : Int)) = true := by simp; omega
          have hjq : j < q.length := by rw [← HG.out]; exact hlt
          obtain ⟨b2, o2, ha2, hc2, hq2⟩ := RdBB.at HQQ.out hjq
          subst ha2
          have hjs : j < (((Value.slice a0 b0.length c0, b0) : Value × List UInt8) :: tl).length := by rw [← HN.out]; have := HGN.out; have := HN1.out; omega
          obtain ⟨b3, o3, ha3, hc3, hq3⟩ := RdBB.at (HR.out.le leA) hjs
          simp only [Option.some.injEq, Addr.mk.injEq, and_true] at ha3
          obtain ⟨rfl, rfl⟩ := ha3
          have g2 : (putC (conC cs))[j]? = some q[j].2 := by rw [← HQ2.out, List.getElem?_map, List.getElem?_eq_getElem hjq]; rfl
          have g3 : bss[j]? = some ((((Value.slice a0 b0.length c0, b0) : Value × List UInt8) :: tl)[j]).2 := by rw [HBS.out, List.getElem?_map, List.getElem?_eq_getElem hjs]; rfl
          generalize q[j] = x2 at *
          generalize ((((Value.slice a0 b0.length c0, b0) : Value × List UInt8) :: tl)[j]) = x3 at *
          obtain ⟨v2, l2⟩ := x2
          obtain ⟨v3, l3⟩ := x3
          simp only at hc2 hc3 hq2 hq3 g2 g3
          replace hc2 := H12.cell hc2
          replace hc3 := H12.cell hc3
          obtain ⟨av2, cv2, rfl⟩ := hq2.form
          obtain ⟨av3, cv3, rfl⟩ := hq3.form
          have HE := Hid.mk' (bytesEqual_spec (Rd.world hq2 H12) (Rd.world hq3 H12))
          have G2 := Hid.mk' g2
          have G3 := Hid.mk' g3
          have i5 : (0 : Int) ≤ (j : Int) := by omega
          have i6 : (j : Int) < (G : Int) := by omega
          have i7 : (j : Int) < (N : Int) := by have := HGN.out; have := HN1.out; omega
          clear g2 g3 hq2 hq3 hjs hjq
          go_wp2_with fail
          refine HE.out.mono ?_
          rintro e w13 ⟨rfl, rfl⟩
          by_cases hll : l2 = l3
          · rw [decide_eq_true hll]
            have HLL := Hid.mk' hll
            clear hll
            go_wp2_with fail
            go_round
            case rel =>
              refine ⟨j + 1, by go_num, hlt, Hid.mk' (fun k h2 => ?_)⟩
              rcases Nat.lt_or_ge k j with h3 | h3
              · exact hA.out k h3
              · obtain rfl : k = j := by omega
                rw [G2.out, G3.out, HLL.out]
            case measure => simp [intOf]; omega
          · rw [decide_eq_false hll]
            have HLL := Hid.mk' hll
            clear hll
            go_wp2_with fail
            exact HF.out R12 _ leA (fun E h1 h2 => by
              have h3 := (HSE.out E h1 h2).1
              rw [← h3] at h2
              obtain ⟨t, ht⟩ := h2
              have h4 : bss[j]? = (putC (conC cs))[j]? := by rw [← ht, List.getElem?_append_left (by rw [HPL2.out]; exact hlt)]
              rw [G2.out, G3.out] at h4
              exact HLL.out (Option.some.inj h4).symm) H12
        · have d1 : decide ((j : Int) < (G : Int)) = false := by simp; omega
          obtain rfl : j = G := by omega
          have hpre : putC (conC cs) <+: bss := by
            rw [List.prefix_iff_eq_take]
            apply List.ext_getElem?
            intro k
            rw [List.getElem?_take, HPL2.out]
            split
            · exact hA.out k (by assumption)
            · rw [List.getElem?_eq_none]; rw [HPL2.out]; omega
          have HPRE := Hid.mk' hpre
          clear hpre hA
          go_wp2_with fail
          exact HK.out R12 _ cs true _ leA (.inl ⟨rfl, HKC.out, HPRE.out⟩) (by have h := HRC.out.le le12; rw [← HCL.out] at h; exact h) HCZ.out H12
    · have t3 : ((G : Int) != (n1 : Int)) = true := by simp; omega
      have HGN := Hid.mk' hGn
      clear hGn
      go_wp2_with fail
      exact HF.out R12 _ leA (fun E h1 h2 => by
        obtain ⟨h3, h4⟩ := HSE.out E h1 h2
        rw [← h3, HPL2.out] at h4
        exact HGN.out h4.symm) H12
  · have HK0 := Hid.mk' hk0
    have t3 : (kc != 0) = true := by simpa using hk0
    go_wp2_with fail
    refine (entPut_bad H10 (by have h := HRC.out; rw [← HCL.out] at h; exact h) HCZ.out (by rw [HKC.out]; exact HK0.out)).mono ?_
    rintro e w11 ⟨rfl, H11⟩
    rw [HKC.out]
    clear H10 hk0 hkc
    go_wp2_with fail
    exact HF.out R10 _ leA (fun E h1 h2 => by
      have h3 := (HSE.out E h1 h2).1
      have h4 := HKC.out
      rw [h3, h1] at h4
      exact HK0.out h4.symm) H11
end Sh
/- journal.Recover. -/
set_option linter.unusedVariables false
set_option linter.unusedSimpArgs false
namespace Sh
open Go Go.RowKit Go.Proofs
attribute [local go_sem ↓] Go.wp_at_zero Go.wp_at_succ
set_option maxHeartbeats 1000000
set_option maxRecDepth 100000

theorem celly_disk (p : Nat) (S : List (List UInt8)) (left : Int) (dead : Bool) : (diskS p S left dead).celly :=
  celly_ex fun _ => celly_ex fun _ => celly_star (celly_blk _ _ _) (celly_star (celly_row _ _ _ _ _) (celly_bytes _))
/-- What is made clear of some sectors: those that are not. -/
def clrN (xs : List (List UInt8)) (j : Nat) : List En := (List.range j).flatMap fun i => if clearB (xs.getD i []) = true then [] else [(((1 + i : Nat) : Int), [])]
theorem clrN_succ (xs : List (List UInt8)) (j : Nat) : clrN xs (j + 1) = clrN xs j ++ (if clearB (xs.getD j []) = true then [] else [(((1 + j : Nat) : Int), [])]) := by
  rw [clrN, List.range_succ, List.flatMap_append]
  simp [clrN]
def againW (S : List (List UInt8)) (E : List En) : List En := (if thereC S.length E = true then E else []) ++ clrN (jS S) (jS S).length
theorem cl1 (R : Snap) (g : Nat) (a : Int) (hr : Rd R.cell? 2 (.slice (some ⟨g, 0, none⟩) 1 1) 1 [.int .i64 a, .slice none 0 0]) : RdC R.cell? (.slice (some ⟨g, 0, none⟩) 1 1) [⟨a, .slice none 0 0, []⟩] := ⟨hr, fun x hx => by
  obtain rfl := List.mem_singleton.1 hx
  exact Rd.nil⟩
set_option maxHeartbeats 8000000
theorem jrec_spec {w : World} {R : Snap} {L : Asrt} {p pt : Nat} {st : DSt} (H : Holds w R (star (dA p st) L)) (hcy : L.celly) (hT : R.blk pt = some (.cells (rowC 256) tabT (0, 0))) (hb : Bd st) (hS : ∀ s ∈ st.1, s.length ≤ 1000000) (hl : st.1.length ≤ 1000) :
    Calls Try.prog 98 #[.pointer (some ⟨pt, 0, none⟩), .pointer (some ⟨p, 0, none⟩)] w fun e w' => ∃ E ok, GotC (jS st.1) E ok ∧ e = .returned (.int .i64 (errOf (runW st (againW st.1 E)).1)) ∧ Holds w' R (star (dA p (runW st (againW st.1 E)).2) L) := by
  have HB := Hid.mk' hb
  obtain ⟨N, hN⟩ : ∃ N, N = st.1.length := ⟨_, rfl⟩
  have HNN := Hid.mk' hN
  clear hb hN
  go_enter Try.func98, Try.ntmps98
  go_wp2_with fail
  refine (jsectors_spec H hS hl).mono ?_
  rintro e w2 ⟨R2, o2, q, le2, rfl, hq, hqq, H2⟩
  obtain ⟨aq, cq, rfl⟩ := hqq.form
  have hT2 := le2.blk _ _ hT
  obtain ⟨xs, hxs⟩ : ∃ xs, xs = jS st.1 := ⟨_, rfl⟩
  rw [← hxs] at hq
  have hql : q.length ≤ 33 := by
    have h := congrArg List.length hq
    rw [List.length_map, hxs, jS_len] at h
    omega
  obtain ⟨n, hn⟩ : ∃ n, n = q.length := ⟨_, rfl⟩
  have HN := Hid.mk' hn
  have HQ := Hid.mk' hq
  have HXS := Hid.mk' hxs
  have HQL := Hid.mk' hql
  have HQQ : Hid (RdBB R2.cell? (.slice aq n cq) q) := Hid.mk' (by rw [hn]; exact hqq)
  have HXN : Hid (n = xs.length) := Hid.mk' (by rw [hn, ← hq, List.length_map])
  have hn33 : n ≤ 33 := by omega
  rw [← hn]
  clear H hn hq hqq hql hxs
  go_wp2_with fail
  refine entGet_spec H2 (celly_star (celly_disk _ _ _ _) hcy) hT2 HQQ.out (by have := HQL.out; omega) ?_
  intro R3 o3 cs ok w3 le3 hG hRC hSZ H3
  rw [HQ.out] at hG
  obtain ⟨ac, cc, rfl⟩ := hRC.form
  obtain ⟨n3, hn3⟩ : ∃ n, n = cs.length := ⟨_, rfl⟩
  have HN3 := Hid.mk' hn3
  have HG := Hid.mk' hG
  have HRC : Hid (RdC R3.cell? (.slice ac n3 cc) cs) := Hid.mk' (by rw [hn3]; exact hRC)
  have HSZ := Hid.mk' hSZ
  obtain ⟨X, hX⟩ : ∃ X, X = (if thereC N (conC cs) = true then conC cs else []) := ⟨_, rfl⟩
  have HX := Hid.mk' hX
  have HAG : Hid (againW st.1 (conC cs) = X ++ clrN xs n) := Hid.mk' (by rw [againW, ← HNN.out, ← hX, ← HXS.out, HXN.out])
  have leA := le2.trans le3
  rw [← hn3]
  clear H2 hG hRC hSZ hn3 hX
  go_upto_region 5 with fail
  go_cut [28] (fun c wx => ∃ b0 : Bool, c = .bool b0 ∧ (b0 = false → X = conC cs) ∧ (b0 = true → X = []) ∧ Holds wx R3 (star (dA p st) L))
  case first =>
    cases ok with
    | false =>
      have hXX : X = [] := by
        rw [HX.out]
        rcases HG.out with ⟨h, _⟩ | ⟨_, h, _⟩
        · cases h
        · rw [h]; split <;> rfl
      have HXX := Hid.mk' hXX
      clear hXX
      go_wp2_with fail
      go_meet
      case rel => exact ⟨true, rfl, (fun h => by cases h), (fun _ => HXX.out), H3⟩
    | true =>
      go_wp2_with fail
      refine (jthere_spec H3 HRC.out (by have := HSZ.out.1; omega) hl).mono ?_
      rintro e w4 ⟨rfl, H4⟩
      rw [← HNN.out]
      obtain ⟨th, hth⟩ : ∃ b, thereC N (conC cs) = b := ⟨_, rfl⟩
      rw [hth]
      have HTH := Hid.mk' hth
      clear hth H3
      cases th with
      | true =>
        go_wp2_with fail
        go_meet
        case rel => exact ⟨false, rfl, (fun _ => by rw [HX.out, if_pos HTH.out]), (fun h => by cases h), H4⟩
      | false =>
        go_wp2_with fail
        go_meet
        case rel => exact ⟨true, rfl, (fun h => by cases h), (fun _ => by rw [HX.out, if_neg (by rw [HTH.out]; decide)]), H4⟩
  clear H3
  obtain ⟨b0, rfl, hb1, hb2, H3⟩ := hcut
  have HB1 := Hid.mk' hb1
  have HB2 := Hid.mk' hb2
  clear hb1 hb2
  rename_i K9 hK9
  refine hK9 _ _ ?_
  clear hK9 K9
  go_cut [6] (fun c wx => ∃ cs' : List Ch, RdC R3.cell? c cs' ∧ conC cs' = X ∧ cs'.length ≤ 1000 ∧ Holds wx R3 (star (dA p st) L))
  case first =>
    cases b0 with
    | true =>
      go_wp2_with fail
      go_meet
      case rel => exact ⟨[], ⟨Rd.nil, fun _ h => by cases h⟩, (HB2.out (by first | rfl | trivial)).symm, Nat.zero_le _, H3⟩
    | false =>
      go_wp2_with fail
      go_meet
      case rel => exact ⟨cs, HRC.out, (HB1.out (by first | rfl | trivial)).symm, HSZ.out.1, H3⟩
  clear H3
  obtain ⟨cs', hrc', hcc', hl', H4⟩ := hcut
  go_wp2_with fail
  refine (jput_spec H4 hrc' (by omega)).mono ?_
  rintro e w5 ⟨R5, o5, fs0, le5, rfl, hst, H5⟩
  rw [hcc'] at hst
  have hX9 : X.length ≤ 1000 := by rw [← hcc', conC_len]; exact hl'
  have HST := Hid.mk' hst
  clear H4 hrc' hcc' hl' hst
  go_wp2_with fail
  go_loopw [8, 34] (fun o i wx => ∃ (j : Nat) (R' : Snap) (fs : List Value), i = .int .i64 j ∧ j ≤ n ∧ R5.le R' ∧ Hid (StepsV R' p fs (X ++ clrN xs j)) ∧ Hid (fs.length ≤ 1000 + j) ∧ Holds wx R' (star (row tStep 1 o fs.length fs) (star (dA p st) L))) (fun _ i _ => n - (intOf i).toNat)
  case atStart => exact ⟨0, R5, fs0, rfl, Nat.zero_le _, Snap.le.refl _, Hid.mk' (by have h := HST.out; simpa [clrN] using h), Hid.mk' (by rw [HST.out.1]; omega), H5⟩
  case round =>
    clear H5
    obtain ⟨j, R6, fs, rfl, hj, le6, hSt, hfl, H6⟩ := hrel
    obtain ⟨ao, co, rfl⟩ := H6.rowRd.form
    have hfl2 := hfl.out
    by_cases hlt : j < n
    · have d1 : decide ((j : Int) < (n : Int)) = true := by simp; omega
      have hjq : j < q.length := by rw [← HN.out]; exact hlt
      have hqq' := HQQ.out
      rw [HN.out] at hqq'
      obtain ⟨b2, o2, ha2, hc2, hq2⟩ := RdBB.at hqq' hjq
      subst ha2
      have leB : R2.le R6 := le3.trans (le5.trans le6)
      replace hc2 := H6.cell (leB.cell hc2)
      have gy : xs.getD j [] = q[j].2 := by
        rw [List.getD_eq_getElem?_getD, ← HQ.out, List.getElem?_map, List.getElem?_eq_getElem hjq]; rfl
      have HGY := Hid.mk' gy
      generalize q[j] = xy at *
      obtain ⟨vy, y2⟩ := xy
      simp only at hc2 hq2
      obtain ⟨ay, cy, rfl⟩ := hq2.form
      have HQ2 := Hid.mk' (Rd.le hq2 leB)
      have i1 : (0 : Int) ≤ (j : Int) := by omega
      have i2 : (j : Int) < (n : Int) := by omega
      clear hq2 gy hjq hqq'
      go_wp2_with fail
      refine (sclear_spec H6 (Rd.world HQ2.out H6)).mono ?_
      rintro e w7 ⟨rfl, H7⟩
      obtain ⟨cl, hcl⟩ : ∃ b, clearB y2 = b := ⟨_, rfl⟩
      rw [hcl]
      have HCL := Hid.mk' hcl
      clear H6 hc2 hcl
      cases cl with
      | true =>
        go_wp2_with fail
        go_roundw
        case rel =>
          refine ⟨j + 1, R6, fs, by go_num, hlt, le6, Hid.mk' ?_, Hid.mk' (by omega), H7⟩
          rw [clrN_succ, HGY.out, if_pos HCL.out, List.append_nil]
          exact hSt.out
        case measure => simp [intOf]; omega
      | false =>
        obtain ⟨m1, hm1⟩ : ∃ m, m = 1 + j := ⟨_, rfl⟩
        have ha1 : (1 : Int) + (j : Int) = (m1 : Int) := by omega
        have HM1 := Hid.mk' hm1
        clear hm1
        go_wp2_with fail
        obtain ⟨R8, le8, H8, hr8⟩ := ((H7.alloc #[.int .i64 (m1 : Int), .slice none 0 0] tChg).toRow 2 1 1 (Nat.le_refl _) (by decide) rfl).freezeRow
        refine (jput_spec (p := p) H8 (cl1 _ _ _ hr8) (by simp)).mono ?_
        rintro e w9 ⟨R9, o9, gs, le9, rfl, hgs, H9⟩
        obtain ⟨R10, le10, H10, hr10⟩ := H9.freezeRow
        obtain ⟨a10, c10, rfl⟩ := Rd.form hr10
        have hgl : gs.length = 1 := hgs.1
        have HGS := Hid.mk' (hgs.le le10)
        have HR10 := Hid.mk' hr10
        have hg10 : gs.length ≤ 1 := by omega
        clear H7 H8 hr8 H9 hgs hgl hr10
        go_wp2_with (with_reducible refine stop_append ?_)
        refine Hold.go (wpList_append rfl _ _ rfl undSteps infoStep rfl (by decide) rfl rfl H10 (Rd.world HR10.out H10) HGS.out.oneCell (by simp only [maxLen]; omega) (by omega) ?_)
        intro v11 w11 H11
        clear H10
        go_wp2_with fail
        go_roundw
        case rel =>
          refine ⟨j + 1, R10, fs ++ gs, by go_num, hlt, le6.trans (le8.trans (le9.trans le10)), Hid.mk' ?_, Hid.mk' (by rw [List.length_append]; omega), ?_⟩
          · rw [clrN_succ, HGY.out, if_neg (by rw [HCL.out]; decide), ← List.append_assoc]
            have h := HGS.out
            simp only [conC, List.map_cons, List.map_nil] at h
            rw [HM1.out] at h
            exact (hSt.out.le (le8.trans (le9.trans le10))).app h
          · rw [List.length_append]
            exact H11
        case measure => simp [intOf]; omega
    · have d1 : decide ((j : Int) < (n : Int)) = false := by simp; omega
      obtain rfl : j = n := by omega
      obtain ⟨R8, le8, H8, hr8⟩ := H6.freezeRow
      have HR8 := Hid.mk' hr8
      clear H6 hr8
      go_wp2_with fail
      refine (jrun_spec H8 HB.out HR8.out (hSt.out.le le8)).mono ?_
      rintro e w9 ⟨rfl, H9⟩
      rw [← HAG.out] at H9 ⊢
      go_wp2_with fail
      go_ret
      exact ⟨conC cs, ok, by have h := HG.out; rw [HXS.out] at h; exact h, rfl, H9.weaken (leA.trans (le5.trans (le6.trans le8)))⟩
theorem jrec_nil {w : World} {R : Snap} {L : Asrt} {pt : Option Addr} (H : Holds w R L) : Calls Try.prog 98 #[.pointer pt, .pointer none] w fun e w' => e = .returned (.int .i64 15) ∧ Holds w' R L := by
  go_enter Try.func98, Try.ntmps98
  go_wp2_with fail
  go_ret
  exact ⟨rfl, H⟩
end Sh
