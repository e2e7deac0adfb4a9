/- RecordBursts: the walk. -/
import Derived.Test.YtmogagcffebbaaaRecAlive
import Derived.Test.YtmogagcffebbaaaRecApartLaw
import Derived.Test.YtmogagcffebbaaaCrcRef
import Derived.Test.YtmogagcffebbaaaMem
import Derived.BigQuiet
set_option linter.unusedVariables false
set_option linter.unusedSimpArgs false
namespace Sh
open Go Go.RowKit Go.Proofs
attribute [local go_sem ↓] Go.wp_at_zero Go.wp_at_succ
set_option maxHeartbeats 1000000
set_option maxRecDepth 100000

theorem openOk_turned {p x : List UInt8} {first : Int} (hp : p.length ≤ 60) (hx : turnedB (sealS p) x first) : openOk x = decide (x = sealS p) := by
  obtain ⟨h1, h2⟩ := hx
  have e : sealS p = sealB (padTo60 p) := by rw [sealS, if_pos hp]
  have hl := sealS_len hp
  have hg : goodB x = decide (x = sealS p) := by
    rw [e] at h1 h2 ⊢
    by_cases h0 : 0 ≤ first
    · exact goodB_burst (k := first.toNat) h1 fun i hi => h2 i (by omega)
    · exact goodB_burst (k := 0) h1 fun i hi => h2 i (by omega)
  rw [openOk, hg, h1, hl, decide_eq_true rfl, Bool.true_and]
theorem putR_sealed {m : Rc} (hm : rcOk m = true) {y : List UInt8} (hy : y ∈ putR m) : ∃ p, p.length ≤ 60 ∧ y = sealS p := by
  unfold putR at hy
  rcases List.mem_cons.1 hy with h3 | h3
  · exact ⟨_, by rw [headR_len hm]; omega, h3⟩
  · obtain ⟨i, _, h4⟩ := List.mem_map.1 h3
    exact ⟨_, bodyR_len m i, h4.symm⟩
theorem burst_law {m M : Rc} {i n : Nat} {x : List UInt8} {first : Int} {ok : Bool} (hm : rcOk m = true) (hi : i < (putR m).length) (hx : turnedB (putR m)[i] x first) (hG : GotR ((putR m).set i x) M n ok) :
    ok = decide ((putR m)[i] = x) ∧ (decide ((0 : Int) < (n : Int)) = ok) ∧ n ≤ 1000 := by
  obtain ⟨p, hp, e⟩ := putR_sealed hm (List.getElem_mem hi)
  have ho : openOk x = decide (x = (putR m)[i]) := by rw [e] at hx ⊢; exact openOk_turned hp hx
  have hn : ok = true → decide ((0 : Int) < (n : Int)) = true ∧ n ≤ 1000 := by
    intro h
    rcases hG with ⟨_, _, h1, h3⟩ | ⟨rfl, _⟩
    · have h2 := putR_len M
      refine ⟨decide_eq_true (by omega), ?_⟩
      have h4 := h1.length_le
      simp only [List.length_set, putR_len] at h4 h3
      have h5 := (rcOk_bounds hm).2.2.2.2.2
      unfold bodiesN at h4 h3
      omega
    · cases h
  have hno : ok = false → decide ((0 : Int) < (n : Int)) = false ∧ n ≤ 1000 := by
    intro h
    rcases hG with ⟨rfl, _⟩ | ⟨_, _, h3, _⟩
    · cases h
    · subst h3; exact ⟨by decide, by omega⟩
  have key : ok = decide ((putR m)[i] = x) := by
    by_cases hxx : x = (putR m)[i]
    · rw [decide_eq_true hxx.symm]
      rcases hG with ⟨h, _⟩ | ⟨_, _, _, h4⟩
      · exact h
      · exact absurd (by rw [hxx, List.set_getElem_self]; exact List.prefix_refl _) (h4 m hm)
    · rw [decide_eq_false (fun h => hxx h.symm)]
      rw [decide_eq_false hxx] at ho
      rcases hG with ⟨_, h1, h2, h3⟩ | ⟨h, _⟩
      · exfalso
        by_cases hil : i < (putR M).length
        · obtain ⟨t, ht⟩ := h2
          have h5 : ((putR m).set i x)[i]? = some x := by rw [List.getElem?_set_self hi]
          rw [← ht, List.getElem?_append_left hil] at h5
          have h6 : x ∈ putR M := List.mem_of_getElem? h5
          obtain ⟨p', hp', e'⟩ := putR_sealed h1 h6
          rw [e', (open_seal hp').1] at ho
          cases ho
        · obtain ⟨s0, rest, e1, _, p1, _, _⟩ := put_says h1 h2
          obtain ⟨s1, rest1, e2, _, p2, _, _⟩ := put_says hm (List.prefix_refl _)
          have hlM := putR_len M
          obtain ⟨j, rfl⟩ : ∃ j, i = j + 1 := ⟨i - 1, by omega⟩
          rw [e2, List.set_cons_succ] at e1
          obtain ⟨rfl, _⟩ := List.cons.inj e1
          obtain ⟨_, _, _, _, _, _, a7⟩ := head_parse h1 p1 rfl rfl rfl rfl rfl rfl rfl
          obtain ⟨_, _, _, _, _, _, b7⟩ := head_parse hm p2 rfl rfl rfl rfl rfl rfl rfl
          have hl : M.share.length = m.share.length := a7.symm.trans b7
          rw [putR_len, hl, ← putR_len] at hil
          exact hil hi
      · exact h
  refine ⟨key, ?_⟩
  cases ok with
  | true => exact hn rfl
  | false => exact hno rfl
set_option maxHeartbeats 8000000
theorem recordBursts_walk (W : World) {m : Rc} {a0 a1 k : Int} (hm : m.Rd W.cell? ∧ m.name.size ≤ maxLen) (h0 : IntKind.i64.min ≤ a0 ∧ a0 ≤ IntKind.i64.max) (hf : IntKind.i64.min ≤ a1 ∧ a1 ≤ IntKind.i64.max) (hk : IntKind.u32.min ≤ k ∧ k ≤ IntKind.u32.max) :
    Calls Try.prog 17 #[.agg m.cells.toArray, .agg #[.int .i64 a0, .int .i64 a1], .int .u32 k] W fun e w' => e = .returned (.bool true) ∧ Below W.heap.size W w' := by
  obtain ⟨mask, rfl⟩ : ∃ mask : Reg, k = tn mask := ⟨BitVec.ofNat 32 k.toNat, by
    have h1 : (0 : Int) ≤ k := hk.1
    have h2 : k ≤ 4294967295 := hk.2
    unfold tn; rw [BitVec.toNat_ofNat, Nat.mod_eq_of_lt (by omega)]; omega⟩
  have HF := Hid.mk' hf
  obtain ⟨hm, hz1⟩ := hm
  have HM0 : Hid (m.Rd (Snap.of W).cell?) := Hid.mk' hm
  have HZ := Hid.mk' hz1
  obtain ⟨kind, name, attempt, epoch, mark, size, vs, share⟩ := m
  have hs : RdB W.cell? vs share := hm
  obtain ⟨as_, cs_, rfl⟩ := hs.form
  clear hs hm hz1 hf hk h0
  show Calls _ _ #[.agg #[.int .i64 kind, .string name, .int .i64 attempt, .int .i64 epoch, .int .i64 mark, .int .i64 size, .slice as_ share.length cs_], _, _] _ _
  obtain ⟨R1, le1, H1, hb1⟩ := (Holds.start W).allocR (.cells #[.int .i64 kind, .string name, .int .i64 attempt, .int .i64 epoch, .int .i64 mark, .int .i64 size, .slice as_ share.length cs_] tRec (0, 0))
  obtain ⟨R2, le2, H2, hb2⟩ := H1.allocR (.cells #[.int .i64 a0, .int .i64 a1] 120 (0, 0))
  replace hb1 := le2.blk _ _ hb1
  have leA := le1.trans le2
  have HM := Hid.mk' (HM0.out.le leA)
  simp only [World.size_alloc] at hb2
  clear H1
  go_enter Try.func17, Try.ntmps17
  go_upto_region 1 with fail
  generalize (World.alloc ..) = w1 at H2 ⊢
  generalize W.heap.size + 1 = g2 at hb2 ⊢
  generalize hg : W.heap.size = g at hb1 ⊢
  obtain ⟨l1, n1, c1⟩ := Holds.frzFacts (H2) hb1
  go_wp2_with fail
  refine (recFar_spec (⟨kind, name, attempt, epoch, mark, size, .slice as_ share.length cs_, share⟩ : Rc) H2 HM.out).mono ?_
  rintro e w5 ⟨rfl, H5⟩
  clear H2 l1 n1 c1
  obtain ⟨b, hb⟩ : ∃ b, b = (decide (40 < ((⟨kind, name, attempt, epoch, mark, size, .slice as_ share.length cs_, share⟩ : Rc)).name.size) || decide (300 < ((⟨kind, name, attempt, epoch, mark, size, .slice as_ share.length cs_, share⟩ : Rc)).share.length)) := ⟨_, rfl⟩
  rw [← hb]
  have HB := Hid.mk' hb.symm
  clear hb
  cases b with
  | true =>
    go_wp2_with fail
    refine (alive20 H5 celly_emp).mono ?_
    rintro e w99 ⟨rfl, H99⟩
    go_wp2_with fail
    go_ret
    exact ⟨rfl, hg ▸ H99.toBelow (leA)⟩
  | false =>
  have hf := far_no HB.out
  simp only at hf
  have HSZ : Hid (Rc.Sz (⟨kind, name, attempt, epoch, mark, size, .slice as_ share.length cs_, share⟩ : Rc)) := Hid.mk' ⟨HZ.out, by show share.length ≤ 1000000; omega⟩
  clear HB hf
  obtain ⟨l1, n1, c1⟩ := Holds.frzFacts (H5) hb1
  go_wp2_with fail
  refine (rrecRight_spec (⟨kind, name, attempt, epoch, mark, size, .slice as_ share.length cs_, share⟩ : Rc) H5 HM.out HSZ.out).mono ?_
  rintro e w7 ⟨rfl, H7⟩
  clear H5 l1 n1 c1
  cases hok : rcOk (⟨kind, name, attempt, epoch, mark, size, .slice as_ share.length cs_, share⟩ : Rc) with
  | false =>
    go_wp2_with fail
    refine (alive20 H7 celly_emp).mono ?_
    rintro e w99 ⟨rfl, H99⟩
    go_wp2_with fail
    go_ret
    exact ⟨rfl, hg ▸ H99.toBelow (leA)⟩
  | true =>
  have HOK := Hid.mk' hok
  clear hok
  go_wp2_with fail
  refine (new_crc H7).mono ?_
  rintro e w9 ⟨p, rfl, H9⟩
  obtain ⟨R3, le3, H10, hT⟩ := H9.freezeBlk
  replace hb1 := le3.blk _ _ hb1
  replace hb2 := le3.blk _ _ hb2
  replace leA := leA.trans le3
  replace HM := Hid.mk' (HM.out.le le3)
  clear H7 H9 le1 le2 le3
  obtain ⟨l1, n1, c1⟩ := Holds.frzFacts (H10) hb1
  go_wp2_with fail
  refine (recPut_ok (⟨kind, name, attempt, epoch, mark, size, .slice as_ share.length cs_, share⟩ : Rc) H10 celly_emp hT HM.out HSZ.out HOK.out).mono ?_
  rintro e w11 ⟨o, q, rfl, hq, H11⟩
  obtain ⟨R4, le4, H12, hr⟩ := freezeAll q H11.swap
  have hq0 : q.length = 1 + bodiesN share.length := by
    have h := congrArg List.length hq
    rw [List.length_map, putR_len] at h
    exact h
  have hqn : 0 < q.length ∧ q.length ≤ 1000 := by
    have h5 := (rcOk_bounds HOK.out).2.2.2.2.2
    unfold bodiesN at hq0
    simp only at h5
    omega
  obtain ⟨g9, cap, rfl, hcap, hg9, hc9, hf9⟩ := H12.rowAt hqn.1
  have hmx := (Rd.max H12.rowRd)
  have HQ := Hid.mk' hq
  have HR := Hid.mk' hr
  obtain ⟨N, hN⟩ : ∃ N, N = q.length := ⟨_, rfl⟩
  have HN := Hid.mk' hN
  rw [← hN] at hqn H12 ⊢
  obtain ⟨hn0, hn1⟩ := hqn
  replace hb1 := le4.blk _ _ hb1
  replace hb2 := le4.blk _ _ hb2
  replace hT := le4.blk _ _ hT
  replace leA := leA.trans le4
  clear H10 l1 n1 c1 H11 hr le4 hq hq0 hN HM hc9 hcap
  have t0 : ((N : Int) == 0) = false := by rw [beq_eq_false_iff_ne]; omega
  obtain ⟨l2, n2, c2⟩ := Holds.frzFacts (H12) hb2
  obtain ⟨i, hix, hi⟩ : ∃ i : Nat, wrap64 ((IntKind.u64.wrap a0).tmod (N : Int)) = (i : Int) ∧ i < N := by
    have h1 : 0 ≤ IntKind.u64.wrap a0 := by simp [IntKind.wrap, IntKind.signed, IntKind.bits]; omega
    obtain ⟨y, hy⟩ : ∃ y : Nat, IntKind.u64.wrap a0 = (y : Int) := ⟨_, (Int.toNat_of_nonneg h1).symm⟩
    refine ⟨y % N, ?_, Nat.mod_lt _ hn0⟩
    rw [hy, Int.tmod_eq_emod_of_nonneg (by omega)]
    have h2 : y % N < N := Nat.mod_lt _ hn0
    have h3 : (y : Int) % (N : Int) = ((y % N : Nat) : Int) := by omega
    rw [h3]
    exact IntWalk.wrap64_in _ (by omega)
  have hiq : i < q.length := by rw [← HN.out]; exact hi
  obtain ⟨v0, hv0⟩ : ∃ v, v = q[i].1 := ⟨_, rfl⟩
  obtain ⟨b0, hb0⟩ : ∃ b, b = q[i].2 := ⟨_, rfl⟩
  have hc9i : w11.cell? ⟨g9, i, none⟩ = some v0 := by
    obtain ⟨g', c', e', _, _, h, _⟩ := H12.rowAt hn0
    simp only [Value.slice.injEq, Option.some.injEq, Addr.mk.injEq, and_true, true_and] at e'
    obtain ⟨rfl, rfl⟩ := e'
    exact h i _ (by rw [List.getElem?_map, List.getElem?_eq_getElem hiq, hv0]; rfl)
  have hr0 : RdB R4.cell? v0 b0 := by rw [hv0, hb0]; exact HR.out _ (List.getElem_mem hiq)
  have hip : i < (putR (⟨kind, name, attempt, epoch, mark, size, .slice as_ share.length cs_, share⟩ : Rc)).length := by rw [← HQ.out, List.length_map]; exact hiq
  have hbp : (putR (⟨kind, name, attempt, epoch, mark, size, .slice as_ share.length cs_, share⟩ : Rc))[i]'hip = b0 := by
    have e : (putR (⟨kind, name, attempt, epoch, mark, size, .slice as_ share.length cs_, share⟩ : Rc))[i]? = some b0 := by rw [← HQ.out, List.getElem?_map, List.getElem?_eq_getElem hiq, hb0]; rfl
    rw [List.getElem?_eq_getElem hip] at e
    exact Option.some.inj e
  obtain ⟨ai, ci, rfl⟩ := hr0.form
  have hb64 : b0.length ≤ 1000000 := by rw [hb0]; exact putR_lens HQ.out _ (List.getElem_mem hiq)
  have HR0 := Hid.mk' hr0
  have HIP := Hid.mk' hip
  have HBP : Hid (∀ h, (putR (⟨kind, name, attempt, epoch, mark, size, .slice as_ share.length cs_, share⟩ : Rc))[i]'h = b0) := Hid.mk' (fun _ => hbp)
  have HB64 := Hid.mk' hb64
  have HIQ := Hid.mk' hiq
  have i1 : (0 : Int) ≤ (i : Int) := by omega
  have i2 : (i : Int) < (N : Int) := by omega
  clear hv0 hb0 hr0 hip hbp hb64 hiq
  go_upto_region 8 with fail
  rw [hix]
  clear hix
  go_wp2_with fail
  refine (turn_spec H12 HR0.out HB64.out HF.out).mono ?_
  rintro e w13 ⟨ox, x, rfl, hx, H13⟩
  obtain ⟨R5, le5, H14, hxr⟩ := H13.freezeRow
  replace hT := le5.blk _ _ hT
  replace leA := leA.trans le5
  obtain ⟨ax, cx, rfl⟩ := hxr.form
  obtain ⟨xl, hxl⟩ : ∃ n, n = x.length := ⟨_, rfl⟩
  rw [← hxl]
  have HXR : Hid (RdB R5.cell? (.slice ax xl cx) x) := Hid.mk' (by rw [hxl]; exact hxr)
  have HX := Hid.mk' hx
  replace HR0 := Hid.mk' (Rd.le HR0.out le5)
  obtain ⟨_, _, e', _, g9l, hc14, g9f⟩ := H14.rowAt hn0
  simp only [Value.slice.injEq, Option.some.injEq, Addr.mk.injEq, and_true, true_and] at e'
  obtain ⟨rfl, rfl⟩ := e'
  have hc14i : ∃ u, w13.cell? ⟨g9, i, none⟩ = some u := ⟨_, hc14 i _ (by rw [List.getElem?_map, List.getElem?_eq_getElem HIQ.out]; rfl)⟩
  obtain ⟨u14, hc14i⟩ := hc14i
  clear H12 H13 l2 n2 c2 hb1 hb2 hx hxr hc9i hf9 hg9 hxl hc14
  go_upto_region 10 with fail
  have H15 := H14.rowSet i (.slice ax xl cx) (by omega)
  clear H14 g9l g9f hc14i
  generalize (World.setCell ..) = w15 at H15 ⊢
  obtain ⟨R6, le6, H16, hrow⟩ := H15.freezeRow
  have hBB : RdBB R6.cell? (.slice (some ⟨g9, 0, none⟩) N cap) (q.set i (.slice ax xl cx, x)) := by
    refine ⟨by rw [List.length_set, ← HN.out, List.map_set]; exact hrow, fun y hy => ?_⟩
    rcases List.mem_or_eq_of_mem_set hy with h1 | h1
    · exact Rd.le (Rd.le (HR.out y h1) le5) le6
    · rw [h1]; exact Rd.le HXR.out le6
  have hql : (q.set i (.slice ax xl cx, x)).length = N := by rw [List.length_set, HN.out]
  replace hT := le6.blk _ _ hT
  replace HXR := Hid.mk' (Rd.le HXR.out le6)
  replace HR0 := Hid.mk' (Rd.le HR0.out le6)
  replace leA := leA.trans le6
  have HROW := Hid.mk' hrow
  have HBB := Hid.mk' hBB
  have HQL := Hid.mk' hql
  clear H15 hrow hBB hql HR le5 le6
  go_wp2_with fail
  refine recGet_spec H16 celly_emp hT HBB.out (by rw [HQL.out]; exact hn1) ?_
  intro R7 M n ok w17 le7 hG hMR hMZ H17
  rw [List.map_set, HQ.out] at hG
  have hlaw := burst_law HOK.out HIP.out (by rw [HBP.out]; exact HX.out) hG
  rw [HBP.out] at hlaw
  obtain ⟨hok, hpos, hnn⟩ := hlaw
  have HK := Hid.mk' hok.symm
  replace HXR := Hid.mk' (Rd.le HXR.out le7)
  replace HR0 := Hid.mk' (Rd.le HR0.out le7)
  replace HROW := Hid.mk' (Rd.le HROW.out le7)
  replace leA := leA.trans le7
  clear H16 hG hok le7 hT HBB HX
  obtain ⟨kind', name', attempt', epoch', mark', size', vs', share'⟩ := M
  obtain ⟨z3, z4⟩ := hMZ
  have hs' := hMR
  simp only [Rc.Rd] at z3 z4 hs'
  obtain ⟨as', cs', rfl⟩ := hs'.form
  have hcl : ((⟨kind', name', attempt', epoch', mark', size', .slice as' share'.length cs', share'⟩ : Rc)).cells = [.int .i64 kind', .string name', .int .i64 attempt', .int .i64 epoch', .int .i64 mark', .int .i64 size', .slice as' share'.length cs'] := rfl
  simp only [hcl]
  clear hs' hMR z3 z4 hcl
  have H18 := (H17.alloc #[.int .i64 kind', .string name', .int .i64 attempt', .int .i64 epoch', .int .i64 mark', .int .i64 size', .slice as' share'.length cs'] tRec).drop
  clear H17
  go_upto_region 11 with fail
  generalize (World.alloc ..) = w18 at H18 ⊢
  have hc9 : w18.cell? ⟨g9, i, none⟩ = some (.slice ax xl cx) := by
    obtain ⟨b, o, e', h⟩ := Rd.open (Rd.world HROW.out H18) (by omega)
    simp only [Option.some.injEq, Addr.mk.injEq, and_true] at e'
    obtain ⟨rfl, rfl⟩ := e'
    have h := h i (.slice ax xl cx) (by rw [List.getElem?_set_self (by rw [List.length_map]; exact HIQ.out)])
    rwa [Nat.zero_add] at h
  have cv1 := fun k => convStr (Rd.world HR0.out (H18.drewN k))
  have cv2 := fun k => convStr (Rd.world HXR.out (H18.drewN k))
  go_quiet (fail)
  have hk : (b0 == x) = ok := by rw [← HK.out]; exact Bool.eq_iff_iff.2 (by simp)
  rw [hk]
  have H19 := H18.drewN nq
  generalize (World.drewN _ _) = w19 at H19 ⊢
  clear hk cv1 cv2 hc9
  have hposn : decide (0 < n) = ok := by rw [← hpos]; exact decide_eq_decide.2 (by omega)
  cases ok
  all_goals
    go_wp2_with fail
    refine (alive20 H19 celly_emp).mono ?_
    rintro e w99 ⟨rfl, H99⟩
    go_wp2_with fail
    go_ret
    exact ⟨rfl, hg ▸ H99.toBelow (leA)⟩
end Sh
