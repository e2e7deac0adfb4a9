/- record.Get. -/
import Derived.Test.YtmogagcffebbaaaRecMath
set_option linter.unusedVariables false
set_option linter.unusedSimpArgs false
namespace Sh
open Go Go.RowKit Go.Proofs
attribute [local go_sem ↓] Go.wp_at_zero Go.wp_at_succ
set_option maxHeartbeats 1000000
set_option maxRecDepth 100000

theorem recPut_bad {w : World} {R : Snap} {L : Asrt} {pt : Option Addr} (r : Rc) (H : Holds w R L) (hr : r.Rd R.cell?) (hz : r.Sz) (hok : rcOk r = false) :
    Calls Try.prog 74 #[.pointer pt, .agg r.cells.toArray] w fun e w' => e = .returned (.tuple #[.slice none 0 0, .int .i64 3]) ∧ Holds w' R L := by
  have HOK := Hid.mk' hok
  have HR := Hid.mk' hr
  have HZ := Hid.mk' hz
  obtain ⟨kind, name, attempt, epoch, mark, size, vs, share⟩ := r
  obtain ⟨z1, z2⟩ := hz
  have hs := hr
  simp only [Rc.Rd] at z1 z2 hs
  obtain ⟨as_, cs_, rfl⟩ := hs.form
  obtain ⟨R1, le1, H1, hb1⟩ := H.allocR (.cells #[.pointer pt] 79 (0, 0))
  obtain ⟨R2, le2, H2, hb2⟩ := H1.allocR (.cells #[.int .i64 kind, .string name, .int .i64 attempt, .int .i64 epoch, .int .i64 mark, .int .i64 size, .slice as_ share.length cs_] tRec (0, 0))
  have leA := le1.trans le2
  simp only [World.size_alloc] at hb2
  clear H H1 hok le1 le2 hs hr hb1
  show Calls _ _ #[_, .agg #[.int .i64 kind, .string name, .int .i64 attempt, .int .i64 epoch, .int .i64 mark, .int .i64 size, .slice as_ share.length cs_]] _ _
  go_enter Try.func74, Try.ntmps74
  go_upto_region 1 with fail
  generalize (World.alloc ..) = w2 at H2 ⊢
  generalize (w.heap.size + 1) = g2 at hb2 ⊢
  generalize w.heap.size = g1
  obtain ⟨l2, n2, c2⟩ := Holds.frzFacts (H2) hb2
  go_wp2_with fail
  refine (recRight_spec (⟨kind, name, attempt, epoch, mark, size, .slice as_ share.length cs_, share⟩ : Rc) H2 (HR.out.le leA) HZ.out).mono ?_
  rintro e w3 ⟨rfl, H3⟩
  rw [HOK.out]
  go_wp2_with fail
  refine bodyPost_ret (results_tmp2 rfl _ _ _) rfl ?_
  exact ⟨rfl, H3.weaken leA⟩
set_option maxHeartbeats 8000000
theorem recGet_spec {w : World} {R : Snap} {L : Asrt} {p : Nat} {v : Value} {ss : List (Value × List UInt8)} {PO : Ending → World → Prop} (H : Holds w R L) (hcy : L.celly) (hT : R.blk p = some (.cells (rowC 256) tabT (0, 0))) (hr : RdBB R.cell? v ss) (hn : ss.length ≤ 1000)
    (k : ∀ R' M (n : Nat) (ok : Bool) w', R.le R' → GotR (ss.map Prod.snd) M n ok → M.Rd R'.cell? → M.Sz → Holds w' R' L → PO (.returned (.tuple #[.agg M.cells.toArray, .int .i64 (n : Nat), .bool ok])) w') :
    Calls Try.prog 82 #[.pointer (some ⟨p, 0, none⟩), v] w PO := by
  have HK := Hid.mk' k
  clear k
  have zsz : zeroRc.Sz := ⟨by decide, Nat.zero_le _⟩
  have ZSZ := Hid.mk' zsz
  clear zsz
  obtain ⟨a, c, rfl⟩ := hr.form
  have hB := hr.bounds
  obtain ⟨N, hN⟩ : ∃ N, N = ss.length := ⟨_, rfl⟩
  have HR := Hid.mk' hr
  have HN := Hid.mk' hN
  rw [← hN] at hB hn ⊢
  obtain ⟨hB1, hB2⟩ := hB
  have H1 := H.alloc zeroRec tRec
  clear hr hN H
  go_enter Try.func82, Try.ntmps82
  go_upto_region 1 with fail
  generalize (World.alloc ..) = w1 at H1 ⊢
  generalize w.heap.size = z at H1 ⊢
  by_cases h0 : N = 0
  · subst h0
    obtain ⟨l88, n88, c88, z88⟩ := Holds.facts (H1)
    go_wp2_with fail
    have H13 := Holds.blkFull (H1) [.int .i64 0, .string ⟨#[]⟩, .int .i64 0, .int .i64 0, .int .i64 0, .int .i64 0, .slice none 0 0] rfl
    clear l88 n88 c88 z88
    generalize hw9 : World.setCell .. = w13
    replace H13 := Holds.at hw9 H13
    clear hw9
    refine bodyPost_ret (results_cell3 rfl _ _ z tRec _ (0, 0) _ rfl H13.blkAt Try.underlying108 rfl (by kernel_rfl)) rfl ?_
    refine HK.out R zeroRc 0 false _ (Snap.le.refl _) (.inr ⟨rfl, rfl, rfl, fun r h1 h2 => ?_⟩) Rd.nil ZSZ.out H13.drop
    obtain ⟨s0, rest, e, _⟩ := put_says h1 h2
    have := congrArg List.length e
    rw [List.length_map, ← HN.out] at this
    simp at this
  have t0 : ((N : Int) == 0) = false := by rw [beq_eq_false_iff_ne]; omega
  obtain ⟨⟨v0, b0⟩, tl, rfl⟩ : ∃ x tl, ss = x :: tl := by
    cases ss with
    | nil => exact absurd HN.out h0
    | cons x tl => exact ⟨x, tl, rfl⟩
  obtain ⟨b1, o1, ha, hc, hq⟩ := RdBB.at HR.out (j := 0) (by simp)
  subst ha
  replace hc : R.cell? ⟨b1, o1, none⟩ = some v0 := hc
  replace hq : RdB R.cell? v0 b0 := hq
  replace hc := H1.cell hc
  obtain ⟨a0, c0, rfl⟩ := hq.form
  have HQ := Hid.mk' hq
  have i1 : (0 : Int) < (N : Int) := by omega
  have i2 : 0 < N := by omega
  have htl : tl.length = N - 1 := by have := HN.out; simp at this; omega
  have HTL := Hid.mk' htl
  clear hq h0 htl
  have hno : openOk b0 = false → ∀ r : Rc, rcOk r = true → ¬ putR r <+: (((Value.slice a0 b0.length c0, b0) : Value × List UInt8) :: tl).map Prod.snd := fun h r h1 h2 => by
    obtain ⟨s0, rest, e, e2, _⟩ := put_says h1 h2
    obtain ⟨rfl, _⟩ := List.cons.inj e
    rw [h] at e2; cases e2
  have HNO := Hid.mk' hno
  clear hno
  go_wp2_with fail
  refine (sopen_spec H1 hT HQ.out).mono ?_
  rintro e w2 ⟨o2, rfl, H2⟩
  clear H1 hc
  cases hok : openOk b0 with
  | false =>
    have HOK := Hid.mk' hok
    clear hok
    obtain ⟨l88, n88, c88, z88⟩ := Holds.facts (H2.drop)
    go_wp2_with fail
    have H13 := Holds.blkFull (H2.drop) [.int .i64 0, .string ⟨#[]⟩, .int .i64 0, .int .i64 0, .int .i64 0, .int .i64 0, .slice none 0 0] rfl
    clear l88 n88 c88 z88
    generalize hw9 : World.setCell .. = w13
    replace H13 := Holds.at hw9 H13
    clear hw9
    refine bodyPost_ret (results_cell3 rfl _ _ z tRec _ (0, 0) _ rfl H13.blkAt Try.underlying108 rfl (by kernel_rfl)) rfl ?_
    exact HK.out R zeroRc 0 false _ (Snap.le.refl _) (.inr ⟨rfl, rfl, rfl, HNO.out HOK.out⟩) Rd.nil ZSZ.out H13.drop
  | true =>
  obtain ⟨R3, le3, H3, hr3⟩ := H2.freezeRow
  obtain ⟨pl, hpl⟩ : ∃ pl, pl = openP b0 := ⟨_, rfl⟩
  have hl60 := openOk_len hok
  rw [← hpl] at hl60
  replace hr3 : RdB R3.cell? o2 pl := by rw [hpl]; exact hr3
  obtain ⟨a2, c2, rfl⟩ := hr3.form
  have HR3 := Hid.mk' hr3
  have HPL := Hid.mk' hpl
  have HL60 := Hid.mk' hl60
  simp only [hl60]
  clear H2 hok hpl hr3 hl60 HNO
  have hT3 := le3.blk _ _ hT
  go_wp2_with fail
  refine (first_spec H3 (RdB.at_len HR3.out HL60.out) HL60.out).mono ?_
  rintro e w4 ⟨M0, lg, rfl, hvs, hsh, hns, hlg, hcm, H4⟩
  obtain ⟨kind, name, attempt, epoch, mark, size, vs0, sh0⟩ := M0
  simp only at hvs hsh hns hcm
  subst hvs hsh
  simp only [Rc.cells]
  have HCM := Hid.mk' hcm
  clear H3 hcm
  have H5 := (H4.alloc #[.int .i64 kind, .string name, .int .i64 attempt, .int .i64 epoch, .int .i64 mark, .int .i64 size, .slice none 0 0] tRec).swap
  go_wp2_with fail
  generalize (World.alloc ..) = w5 at H5 ⊢
  generalize w4.heap.size = g9 at H5 ⊢
  clear H4
  refine (bodies_spec lg (by omega) _).mono ?_
  rintro e w6 ⟨rfl, rfl⟩
  obtain ⟨n, hn1⟩ : ∃ n, n = 1 + bodiesN lg := ⟨_, rfl⟩
  have hn2 : (1 : Int) + ((bodiesN lg : Nat) : Int) = (n : Int) := by omega
  have hn9 : n ≤ 10 := by rw [hn1]; unfold bodiesN; omega
  have hnn1 : 1 ≤ n := by omega
  have HN1 := Hid.mk' hn1
  clear hn1
  -- whoever begins the sectors is the record at hand
  have hsays : ∀ r : Rc, rcOk r = true → putR r <+: b0 :: tl.map Prod.snd → kind = r.kind ∧ name = r.name ∧ attempt = r.attempt ∧ epoch = r.epoch ∧ mark = r.mark ∧ size = r.size ∧ n ≤ N ∧ n = 1 + bodiesN r.share.length ∧ shareG ((tl.map Prod.snd).take (n - 1)) = r.share := fun r h1 h2 => by
    obtain ⟨s0, rest, e, e2, e3, e4, e5⟩ := put_says h1 h2
    obtain ⟨rfl, rfl⟩ := List.cons.inj e
    rw [← HPL.out] at e3
    obtain ⟨c1, c2, c3, c4, c5, c6, c7⟩ := HCM.out r h1 e3
    have h7 : n = 1 + bodiesN r.share.length := by rw [HN1.out, c7]
    refine ⟨c1, c2, c3, c4, c5, c6, ?_, h7, ?_⟩
    · rw [List.length_map, HTL.out] at e4; omega
    · rw [h7, Nat.add_sub_cancel_left]; exact e5
  have HSY := Hid.mk' hsays
  clear hsays
  by_cases hgt : N < n
  · have t1 : decide ((N : Int) < (n : Int)) = true := by simp; omega
    go_upto_region 9 with fail
    obtain ⟨l88, n88, c88, z88⟩ := Holds.facts (H5)
    go_wp2_with fail
    have H13 := Holds.blkFull (H5) [.int .i64 0, .string ⟨#[]⟩, .int .i64 0, .int .i64 0, .int .i64 0, .int .i64 0, .slice none 0 0] rfl
    clear l88 n88 c88 z88
    generalize hw9 : World.setCell .. = w13
    replace H13 := Holds.at hw9 H13
    clear hw9
    refine bodyPost_ret (results_cell3 rfl _ _ z tRec _ (0, 0) _ rfl H13.blkAt Try.underlying108 rfl (by kernel_rfl)) rfl ?_
    exact HK.out R zeroRc 0 false _ (Snap.le.refl _) (.inr ⟨rfl, rfl, rfl, fun r h1 h2 => by have := (HSY.out r h1 h2).2.2.2.2.2.2.1; omega⟩) Rd.nil ZSZ.out (H13.drop.drop.weaken le3)
  have t1 : decide ((N : Int) < (n : Int)) = false := by simp; omega
  have t1n : decide (N < n) = false := by simp; omega
  have hsub := RdBB.sub HR.out 1 n c (by omega) (by have := HN.out; omega) (by omega) (Nat.le_refl _)
  obtain ⟨bs, hbs⟩ : ∃ bs, bs = tl.map Prod.snd := ⟨_, rfl⟩
  have hsb : (((((Value.slice a0 b0.length c0, b0) : Value × List UInt8) :: tl).drop 1).take (n - 1)).map Prod.snd = bs.take (n - 1) := by
    rw [List.drop_one, List.tail_cons, List.map_take, hbs]
  have hsl : (((((Value.slice a0 b0.length c0, b0) : Value × List UInt8) :: tl).drop 1).take (n - 1)).length ≤ 1000 := by
    rw [List.length_take]; omega
  rw [← hbs] at HSY
  have HBS := Hid.mk' hbs
  have i3 : (n : Int) ≤ (c : Int) := by omega
  have i4 : (1 : Int) ≤ (n : Int) := by omega
  have hgt' : n ≤ N := by omega
  have HSUB := Hid.mk' (hsub.le le3)
  have HSB := Hid.mk' hsb
  have HSL := Hid.mk' hsl
  clear hbs hsb hsl hgt hsub
  obtain ⟨l9, n9, c9, z9⟩ := Holds.facts (H5.swap)
  go_wp2_with fail
  refine (share_spec H5 hT3 HSUB.out HSL.out).mono ?_
  rintro e w7 ⟨o7, rfl, H7⟩
  rw [HSB.out] at H7
  obtain ⟨out, hout⟩ : ∃ out, out = shareG (bs.take (n - 1)) := ⟨_, rfl⟩
  rw [← hout] at H7
  have hol : out.length ≤ 2550 := by
    rw [hout]
    unfold shareG
    split
    · have h1 := flatT_len (bs.take (n - 1))
      have h2 : (bs.take (n - 1)).length ≤ 9 := by rw [List.length_take]; omega
      omega
    · simp
  have HOUT := Hid.mk' hout
  clear hout H5 l9 n9 c9 z9
  obtain ⟨R8, le8, H8, hr8⟩ := H7.freezeRow
  obtain ⟨a8, c8, rfl⟩ := hr8.form
  obtain ⟨m, hm⟩ : ∃ m, m = out.length := ⟨_, rfl⟩
  have HR8 := Hid.mk' hr8
  have HM := Hid.mk' hm
  rw [← hm] at hol
  simp only [← hm]
  have hT8 := le8.blk _ _ hT3
  clear H7 hr8 hm
  obtain ⟨l9, n9, c9, z9⟩ := Holds.facts (H8.swap)
  go_upto_region 11 with fail
  have H9 := (H8.swap.set 6 (.slice a8 m c8)).swap
  replace H9 : Holds _ R8 (star (blk z zeroRec tRec) (star (blk g9 #[.int .i64 kind, .string name, .int .i64 attempt, .int .i64 epoch, .int .i64 mark, .int .i64 size, .slice a8 m c8] tRec) L)) := H9
  clear H8 l9 n9 c9 z9
  generalize (World.setCell ..) = w9 at H9 ⊢
  obtain ⟨M, hMM⟩ : ∃ M : Rc, M = ⟨kind, name, attempt, epoch, mark, size, .slice a8 m c8, out⟩ := ⟨_, rfl⟩
  have hMR : M.Rd R8.cell? := by rw [hMM]; exact RdB.at_len HR8.out HM.out.symm
  have hMZ : M.Sz := by rw [hMM]; exact ⟨by simp only [maxLen]; omega, by show out.length ≤ 1000000; rw [← HM.out]; omega⟩
  have hsy : ∀ r : Rc, rcOk r = true → putR r <+: b0 :: bs → M.con = r.con ∧ n = (putR r).length := fun r h1 h2 => by
    obtain ⟨c1, c2, c3, c4, c5, c6, c7, c8, c9⟩ := HSY.out r h1 h2
    refine ⟨?_, by rw [putR_len, c8]⟩
    rw [hMM]
    simp only [Rc.con, Prod.mk.injEq, List.cons.injEq, and_true]
    exact ⟨⟨c1, c3, c4, c5, c6⟩, c2, by rw [HOUT.out, c9]⟩
  have HMR := Hid.mk' hMR
  have HMZ := Hid.mk' hMZ
  replace HSY := Hid.mk' hsy
  have hMc : M.cells = [.int .i64 kind, .string name, .int .i64 attempt, .int .i64 epoch, .int .i64 mark, .int .i64 size, .slice a8 m c8] := by rw [hMM]; rfl
  have HMC := Hid.mk' hMc
  have HCL := Hid.mk' (show (Value.agg #[.int .i64 kind, .string name, .int .i64 attempt, .int .i64 epoch, .int .i64 mark, .int .i64 size, .slice a8 m c8]) = .agg M.cells.toArray by rw [hMc])
  clear hMM hMR hMZ hsy hMc HCM HPL HQ HOUT HSUB HSB HSL
  obtain ⟨l9, n9, c9, z9⟩ := Holds.facts (H9.swap)
  go_wp2_with fail
  obtain ⟨ok, hok⟩ : ∃ ok, ok = rcOk M := ⟨_, rfl⟩
  have HOK := Hid.mk' hok.symm
  clear hok
  have leA := le3.trans le8
  cases ok with
  | false =>
    rw [HCL.out]
    refine (recPut_bad M H9 HMR.out HMZ.out HOK.out).mono ?_
    rintro e w10 ⟨rfl, H10⟩
    clear H9 l9 n9 c9 z9
    obtain ⟨l88, n88, c88, z88⟩ := Holds.facts (H10)
    go_wp2_with fail
    have H13 := Holds.blkFull (H10) [.int .i64 0, .string ⟨#[]⟩, .int .i64 0, .int .i64 0, .int .i64 0, .int .i64 0, .slice none 0 0] rfl
    clear l88 n88 c88 z88
    generalize hw9 : World.setCell .. = w13
    replace H13 := Holds.at hw9 H13
    clear hw9
    refine bodyPost_ret (results_cell3 rfl _ _ z tRec _ (0, 0) _ rfl H13.blkAt Try.underlying108 rfl (by kernel_rfl)) rfl ?_
    exact HK.out R zeroRc 0 false _ (Snap.le.refl _) (.inr ⟨rfl, rfl, rfl, fun r h1 h2 => by
      have h3 := (HSY.out r h1 (by rw [HBS.out]; exact h2)).1
      rw [rcOk_con h3, h1] at HOK
      cases HOK.out⟩) Rd.nil ZSZ.out (H13.drop.drop.weaken leA)
  | true =>
    rw [HCL.out]
    refine (recPut_ok M H9 (celly_star (celly_blk _ _ _) (celly_star (celly_blk _ _ _) hcy)) hT8 HMR.out HMZ.out HOK.out).mono ?_
    rintro e w10 ⟨o, q, rfl, hq, H10⟩
    obtain ⟨R11, le11, H11, hqq⟩ := freezeBB H10
    obtain ⟨ao, co, rfl⟩ := hqq.form
    obtain ⟨G, hG⟩ : ∃ G, G = q.length := ⟨_, rfl⟩
    have hpl : (putR M).length = G := by rw [← hq, List.length_map, hG]
    have HQQ := Hid.mk' hqq
    have HQ := Hid.mk' hq
    have HG := Hid.mk' hG
    have HPL := Hid.mk' hpl
    simp only [← hG]
    replace leA := leA.trans le11
    clear H9 l9 n9 c9 z9 H10 hqq hq hG hpl
    have hsz : R8.le R11 := le11
    by_cases hGn : G = n
    · have t2 : ((G : Int) != (n : Int)) = false := by simp; omega
      have HGN := Hid.mk' hGn
      clear hGn
      go_wp2_with fail
      go_loop [67] (fun i => ∃ j : Nat, i = .int .i64 j ∧ j ≤ G ∧ Hid (∀ k, k < j → (putR M)[k]? = (b0 :: bs)[k]?)) (fun i => G - (intOf i).toNat)
      case atStart => exact ⟨0, rfl, Nat.zero_le _, Hid.mk' (fun k h => absurd h (Nat.not_lt_zero k))⟩
      case round =>
        obtain ⟨j, rfl, hj, hA⟩ := hrel
        by_cases hlt : j < G
        · have d1 : decide ((j : Int) < (G : Int)) = true := by simp; omega
          have hjq : j < q.length := by rw [← HG.out]; exact hlt
          obtain ⟨b2, o2, ha2, hc2, hq2⟩ := RdBB.at HQQ.out hjq
          subst ha2
          have hjs : j < (((Value.slice a0 b0.length c0, b0) : Value × List UInt8) :: tl).length := by rw [← HN.out]; have := HGN.out; omega
          obtain ⟨b3, o3, ha3, hc3, hq3⟩ := RdBB.at (HR.out.le leA) hjs
          simp only [Option.some.injEq, Addr.mk.injEq, and_true] at ha3
          obtain ⟨rfl, rfl⟩ := ha3
          have e2 : q[j].2 = (putR M)[j]'(by rw [HPL.out]; exact hlt) := by simp [← HQ.out]
          have e3 : ((((Value.slice a0 b0.length c0, b0) : Value × List UInt8) :: tl)[j]).2 = (b0 :: bs)[j]'(by rw [HBS.out]; simpa using hjs) := by
            have : (b0 :: bs) = ((((Value.slice a0 b0.length c0, b0) : Value × List UInt8) :: tl)).map Prod.snd := by rw [HBS.out]; rfl
            simp only [this, List.getElem_map]
          obtain ⟨v2, hv2⟩ : ∃ v, v = q[j].1 := ⟨_, rfl⟩
          obtain ⟨l2, hl2⟩ : ∃ l, l = q[j].2 := ⟨_, rfl⟩
          obtain ⟨v3, hv3⟩ : ∃ v, v = ((((Value.slice a0 b0.length c0, b0) : Value × List UInt8) :: tl)[j]).1 := ⟨_, rfl⟩
          obtain ⟨l3, hl3⟩ : ∃ l, l = ((((Value.slice a0 b0.length c0, b0) : Value × List UInt8) :: tl)[j]).2 := ⟨_, rfl⟩
          rw [← hv2] at hc2
          rw [← hv3] at hc3
          rw [← hv2, ← hl2] at hq2
          rw [← hv3, ← hl3] at hq3
          have g2 : (putR M)[j]? = some l2 := by rw [List.getElem?_eq_getElem (by rw [HPL.out]; exact hlt), hl2, e2]
          have g3 : (b0 :: bs)[j]? = some l3 := by rw [List.getElem?_eq_getElem (by rw [HBS.out]; simpa using hjs), hl3, e3]
          replace hc2 := H11.cell hc2
          replace hc3 := H11.cell hc3
          obtain ⟨av2, cv2, rfl⟩ := hq2.form
          obtain ⟨av3, cv3, rfl⟩ := hq3.form
          have HE := Hid.mk' (bytesEqual_spec (Rd.world hq2 H11) (Rd.world hq3 H11))
          have G2 := Hid.mk' g2
          have G3 := Hid.mk' g3
          have i5 : (0 : Int) ≤ (j : Int) := by omega
          have i6 : (j : Int) < (G : Int) := by omega
          have i7 : (j : Int) < (N : Int) := by have := HGN.out; omega
          clear e2 e3 hv2 hl2 hv3 hl3 g2 g3 hq2 hq3 hjs hjq
          go_wp2_with fail
          refine HE.out.mono ?_
          rintro e w12 ⟨rfl, rfl⟩
          by_cases hll : l2 = l3
          · rw [decide_eq_true hll]
            have HLL := Hid.mk' hll
            clear hll
            go_wp2_with fail
            go_round
            case rel =>
              refine ⟨j + 1, by go_num, hlt, Hid.mk' (fun k h2 => ?_)⟩
              rcases Nat.lt_or_ge k j with h3 | h3
              · exact hA.out k h3
              · obtain rfl : k = j := by omega
                rw [G2.out, G3.out, HLL.out]
            case measure => simp [intOf]; omega
          · rw [decide_eq_false hll]
            have HLL := Hid.mk' hll
            clear hll
            obtain ⟨l88, n88, c88, z88⟩ := Holds.facts (H11)
            go_wp2_with fail
            have H13 := Holds.blkFull (H11) [.int .i64 0, .string ⟨#[]⟩, .int .i64 0, .int .i64 0, .int .i64 0, .int .i64 0, .slice none 0 0] rfl
            clear l88 n88 c88 z88
            generalize hw9 : World.setCell .. = w13
            replace H13 := Holds.at hw9 H13
            clear hw9
            refine bodyPost_ret (results_cell3 rfl _ _ z tRec _ (0, 0) _ rfl H13.blkAt Try.underlying108 rfl (by kernel_rfl)) rfl ?_
            exact HK.out R zeroRc 0 false _ (Snap.le.refl _) (.inr ⟨rfl, rfl, rfl, fun r h1 h2 => by
              have h2' : putR r <+: b0 :: bs := by rw [HBS.out]; exact h2
              have h3 := putR_con (HSY.out r h1 h2').1
              rw [← h3] at h2'
              obtain ⟨t, ht⟩ := h2'
              have h4 : (b0 :: bs)[j]? = (putR M)[j]? := by rw [← ht, List.getElem?_append_left (by rw [HPL.out]; exact hlt)]
              rw [G2.out, G3.out] at h4
              exact HLL.out (Option.some.inj h4).symm⟩) Rd.nil ZSZ.out (H13.drop.drop.weaken leA)
        · have d1 : decide ((j : Int) < (G : Int)) = false := by simp; omega
          obtain rfl : j = G := by omega
          have hpre : putR M <+: b0 :: bs := by
            rw [List.prefix_iff_eq_take]
            apply List.ext_getElem?
            intro k
            rw [List.getElem?_take, HPL.out]
            split
            · exact hA.out k (by assumption)
            · rw [List.getElem?_eq_none]; rw [HPL.out]; omega
          have HPRE := Hid.mk' hpre
          clear hpre hA
          obtain ⟨l9, n9, c9, z9⟩ := Holds.facts (H11.swap)
          obtain ⟨l98, n98, c98, z98⟩ := Holds.facts (H11)
          obtain ⟨s1, s2⟩ := Holds.apart H11
          go_wp2_with fail
          have H13 := Holds.blkFull H11 [.int .i64 kind, .string name, .int .i64 attempt, .int .i64 epoch, .int .i64 mark, .int .i64 size, .slice a8 m c8] rfl
          clear l9 n9 c9 z9 l98 n98 c98 z98 s1 s2
          generalize hw9 : World.setCell .. = w13
          replace H13 := Holds.at hw9 H13
          clear hw9
          refine bodyPost_ret (results_cell3 rfl _ _ z tRec _ (0, 0) _ rfl H13.blkAt Try.underlying108 rfl (by kernel_rfl)) rfl ?_
          have hfin := HK.out R11 M n true _ leA (.inl ⟨rfl, HOK.out, by have := HPRE.out; rw [HBS.out] at this; exact this, by rw [HPL.out]; exact HGN.out.symm⟩) (HMR.out.le hsz) HMZ.out H13.drop.drop
          rw [← HCL.out] at hfin
          exact hfin
    · have t2 : ((G : Int) != (n : Int)) = true := by simp; omega
      have HGN := Hid.mk' hGn
      clear hGn
      obtain ⟨l88, n88, c88, z88⟩ := Holds.facts (H11)
      go_wp2_with fail
      have H13 := Holds.blkFull (H11) [.int .i64 0, .string ⟨#[]⟩, .int .i64 0, .int .i64 0, .int .i64 0, .int .i64 0, .slice none 0 0] rfl
      clear l88 n88 c88 z88
      generalize hw9 : World.setCell .. = w13
      replace H13 := Holds.at hw9 H13
      clear hw9
      refine bodyPost_ret (results_cell3 rfl _ _ z tRec _ (0, 0) _ rfl H13.blkAt Try.underlying108 rfl (by kernel_rfl)) rfl ?_
      exact HK.out R zeroRc 0 false _ (Snap.le.refl _) (.inr ⟨rfl, rfl, rfl, fun r h1 h2 => by
        have h3 := HSY.out r h1 (by rw [HBS.out]; exact h2)
        have h4 := putR_con h3.1
        rw [← h4, HPL.out] at h3
        exact HGN.out h3.2.symm⟩) Rd.nil ZSZ.out (H13.drop.drop.weaken leA)
end Sh
