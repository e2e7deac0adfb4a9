/- RecGet MsgSame RecSame: joined texts, each with its own sentence below. -/
import Derived.Test.YtmogagcffebbaaaRg10
import Derived.Test.YtmogagcffebbaaaRg3
import Derived.Test.YtmogagcffebbaaaRg8
/- record.Get. -/
set_option linter.unusedVariables false
set_option linter.unusedSimpArgs false
namespace Sh
open Go Go.RowKit Go.Proofs
attribute [local go_sem ↓] Go.wp_at_zero Go.wp_at_succ
set_option maxHeartbeats 1000000
set_option maxRecDepth 100000

theorem recPut_bad {w : World} {R : Snap} {L : Asrt} {pt : Option Addr} (r : Rc) (H : Holds w R L) (hr : r.Rd R.cell?) (hz : r.Sz) (hok : rcOk r = false) :
    Calls Try.prog 74 #[.pointer pt, .agg r.cells.toArray] w fun e w' => e = .returned (.tuple #[.slice none 0 0, .int .i64 3]) ∧ Holds w' R L := by
  have HOK := Hid.mk' hok
  have HR := Hid.mk' hr
  have HZ := Hid.mk' hz
  obtain ⟨kind, name, attempt, epoch, mark, size, vs, share⟩ := r
  obtain ⟨z1, z2⟩ := hz
  have hs := hr
  simp only [Rc.Rd] at z1 z2 hs
  obtain ⟨as_, cs_, rfl⟩ := hs.form
  obtain ⟨R1, le1, H1, hb1⟩ := H.allocR (.cells #[.pointer pt] 79 (0, 0))
  obtain ⟨R2, le2, H2, hb2⟩ := H1.allocR (.cells #[.int .i64 kind, .string name, .int .i64 attempt, .int .i64 epoch, .int .i64 mark, .int .i64 size, .slice as_ share.length cs_] tRec (0, 0))
  have leA := le1.trans le2
  simp only [World.size_alloc] at hb2
  clear H H1 hok le1 le2 hs hr hb1
  show Calls _ _ #[_, .agg #[.int .i64 kind, .string name, .int .i64 attempt, .int .i64 epoch, .int .i64 mark, .int .i64 size, .slice as_ share.length cs_]] _ _
  go_enter Try.func74, Try.ntmps74
  go_upto_region 1 with fail
  generalize (World.alloc ..) = w2 at H2 ⊢
  generalize (w.heap.size + 1) = g2 at hb2 ⊢
  generalize w.heap.size = g1
  obtain ⟨l2, n2, c2⟩ := Holds.frzFacts (H2) hb2
  go_wp2_with fail
  refine (recRight_spec (⟨kind, name, attempt, epoch, mark, size, .slice as_ share.length cs_, share⟩ : Rc) H2 (HR.out.le leA) HZ.out).mono ?_
  rintro e w3 ⟨rfl, H3⟩
  rw [HOK.out]
  go_wp2_with fail
  refine bodyPost_ret (results_tmp2 rfl _ _ _) rfl ?_
  exact ⟨rfl, H3.weaken leA⟩
set_option maxHeartbeats 8000000
theorem recGet_spec {w : World} {R : Snap} {L : Asrt} {p : Nat} {v : Value} {ss : List (Value × List UInt8)} {PO : Ending → World → Prop} (H : Holds w R L) (hcy : L.celly) (hT : R.blk p = some (.cells (rowC 256) tabT (0, 0))) (hr : RdBB R.cell? v ss) (hn : ss.length ≤ 1000)
    (k : ∀ R' M (n : Nat) (ok : Bool) w', R.le R' → GotR (ss.map Prod.snd) M n ok → M.Rd R'.cell? → M.Sz → Holds w' R' L → PO (.returned (.tuple #[.agg M.cells.toArray, .int .i64 (n : Nat), .bool ok])) w') :
    Calls Try.prog 82 #[.pointer (some ⟨p, 0, none⟩), v] w PO := by
  have HK := Hid.mk' k
  clear k
  have zsz : zeroRc.Sz := ⟨by decide, Nat.zero_le _⟩
  have ZSZ := Hid.mk' zsz
  clear zsz
  obtain ⟨a, c, rfl⟩ := hr.form
  have hB := hr.bounds
  obtain ⟨N, hN⟩ : ∃ N, N = ss.length := ⟨_, rfl⟩
  have HR := Hid.mk' hr
  have HN := Hid.mk' hN
  rw [← hN] at hB hn ⊢
  obtain ⟨hB1, hB2⟩ := hB
  have H1 := H.alloc zeroRec tRec
  clear hr hN H
  go_enter Try.func82, Try.ntmps82
  go_upto_region 1 with fail
  generalize (World.alloc ..) = w1 at H1 ⊢
  generalize w.heap.size = z at H1 ⊢
  by_cases h0 : N = 0
  · subst h0
    obtain ⟨l88, n88, c88, z88⟩ := Holds.facts (H1)
    go_wp2_with fail
    have H13 := Holds.blkFull (H1) [.int .i64 0, .string ⟨#[]⟩, .int .i64 0, .int .i64 0, .int .i64 0, .int .i64 0, .slice none 0 0] rfl
    clear l88 n88 c88 z88
    generalize hw9 : World.setCell .. = w13
    replace H13 := Holds.at hw9 H13
    clear hw9
    refine bodyPost_ret (results_cell3 rfl _ _ z tRec _ (0, 0) _ rfl H13.blkAt Try.underlying108 rfl (by kernel_rfl)) rfl ?_
    refine HK.out R zeroRc 0 false _ (Snap.le.refl _) (.inr ⟨rfl, rfl, rfl, fun r h1 h2 => ?_⟩) Rd.nil ZSZ.out H13.drop
    obtain ⟨s0, rest, e, _⟩ := put_says h1 h2
    have := congrArg List.length e
    rw [List.length_map, ← HN.out] at this
    simp at this
  have t0 : ((N : Int) == 0) = false := by rw [beq_eq_false_iff_ne]; omega
  obtain ⟨⟨v0, b0⟩, tl, rfl⟩ : ∃ x tl, ss = x :: tl := by
    cases ss with
    | nil => exact absurd HN.out h0
    | cons x tl => exact ⟨x, tl, rfl⟩
  obtain ⟨b1, o1, ha, hc, hq⟩ := RdBB.at HR.out (j := 0) (by simp)
  subst ha
  replace hc : R.cell? ⟨b1, o1, none⟩ = some v0 := hc
  replace hq : RdB R.cell? v0 b0 := hq
  replace hc := H1.cell hc
  obtain ⟨a0, c0, rfl⟩ := hq.form
  have HQ := Hid.mk' hq
  have i1 : (0 : Int) < (N : Int) := by omega
  have i2 : 0 < N := by omega
  have htl : tl.length = N - 1 := by have := HN.out; simp at this; omega
  have HTL := Hid.mk' htl
  clear hq h0 htl
  have hno : openOk b0 = false → ∀ r : Rc, rcOk r = true → ¬ putR r <+: (((Value.slice a0 b0.length c0, b0) : Value × List UInt8) :: tl).map Prod.snd := fun h r h1 h2 => by
    obtain ⟨s0, rest, e, e2, _⟩ := put_says h1 h2
    obtain ⟨rfl, _⟩ := List.cons.inj e
    rw [h] at e2; cases e2
  have HNO := Hid.mk' hno
  clear hno
  go_wp2_with fail
  refine (sopen_spec H1 hT HQ.out).mono ?_
  rintro e w2 ⟨o2, rfl, H2⟩
  clear H1 hc
  cases hok : openOk b0 with
  | false =>
    have HOK := Hid.mk' hok
    clear hok
    obtain ⟨l88, n88, c88, z88⟩ := Holds.facts (H2.drop)
    go_wp2_with fail
    have H13 := Holds.blkFull (H2.drop) [.int .i64 0, .string ⟨#[]⟩, .int .i64 0, .int .i64 0, .int .i64 0, .int .i64 0, .slice none 0 0] rfl
    clear l88 n88 c88 z88
    generalize hw9 : World.setCell .. = w13
    replace H13 := Holds.at hw9 H13
    clear hw9
    refine bodyPost_ret (results_cell3 rfl _ _ z tRec _ (0, 0) _ rfl H13.blkAt Try.underlying108 rfl (by kernel_rfl)) rfl ?_
    exact HK.out R zeroRc 0 false _ (Snap.le.refl _) (.inr ⟨rfl, rfl, rfl, HNO.out HOK.out⟩) Rd.nil ZSZ.out H13.drop
  | true =>
  obtain ⟨R3, le3, H3, hr3⟩ := H2.freezeRow
  obtain ⟨pl, hpl⟩ : ∃ pl, pl = openP b0 := ⟨_, rfl⟩
  have hl60 := openOk_len hok
  rw [← hpl] at hl60
  replace hr3 : RdB R3.cell? o2 pl := by rw [hpl]; exact hr3
  obtain ⟨a2, c2, rfl⟩ := hr3.form
  have HR3 := Hid.mk' hr3
  have HPL := Hid.mk' hpl
  have HL60 := Hid.mk' hl60
  simp only [hl60]
  clear H2 hok hpl hr3 hl60 HNO
  have hT3 := le3.blk _ _ hT
  go_wp2_with fail
  refine (first_spec H3 (RdB.at_len HR3.out HL60.out) HL60.out).mono ?_
  rintro e w4 ⟨M0, lg, rfl, hvs, hsh, hns, hlg, hcm, H4⟩
  obtain ⟨kind, name, attempt, epoch, mark, size, vs0, sh0⟩ := M0
  simp only at hvs hsh hns hcm
  subst hvs hsh
  simp only [Rc.cells]
  have HCM := Hid.mk' hcm
  clear H3 hcm
  have H5 := (H4.alloc #[.int .i64 kind, .string name, .int .i64 attempt, .int .i64 epoch, .int .i64 mark, .int .i64 size, .slice none 0 0] tRec).swap
  go_wp2_with fail
  generalize (World.alloc ..) = w5 at H5 ⊢
  generalize w4.heap.size = g9 at H5 ⊢
  clear H4
  refine (bodies_spec lg (by omega) _).mono ?_
  rintro e w6 ⟨rfl, rfl⟩
  obtain ⟨n, hn1⟩ : ∃ n, n = 1 + bodiesN lg := ⟨_, rfl⟩
  have hn2 : (1 : Int) + ((bodiesN lg : Nat) : Int) = (n : Int) := by omega
  have hn9 : n ≤ 10 := by rw [hn1]; unfold bodiesN; omega
  have hnn1 : 1 ≤ n := by omega
  have HN1 := Hid.mk' hn1
  clear hn1
  -- whoever begins the sectors is the record at hand
  have hsays : ∀ r : Rc, rcOk r = true → putR r <+: b0 :: tl.map Prod.snd → kind = r.kind ∧ name = r.name ∧ attempt = r.attempt ∧ epoch = r.epoch ∧ mark = r.mark ∧ size = r.size ∧ n ≤ N ∧ n = 1 + bodiesN r.share.length ∧ shareG ((tl.map Prod.snd).take (n - 1)) = r.share := fun r h1 h2 => by
    obtain ⟨s0, rest, e, e2, e3, e4, e5⟩ := put_says h1 h2
    obtain ⟨rfl, rfl⟩ := List.cons.inj e
    rw [← HPL.out] at e3
    obtain ⟨c1, c2, c3, c4, c5, c6, c7⟩ := HCM.out r h1 e3
    have h7 : n = 1 + bodiesN r.share.length := by rw [HN1.out, c7]
    refine ⟨c1, c2, c3, c4, c5, c6, ?_, h7, ?_⟩
    · rw [List.length_map, HTL.out] at e4; omega
    · rw [h7, Nat.add_sub_cancel_left]; exact e5
  have HSY := Hid.mk' hsays
  clear hsays
  by_cases hgt : N < n
  · have t1 : decide ((N : Int) < (n : Int)) = true := by simp; omega
    go_upto_region 9 with fail
    obtain ⟨l88, n88, c88, z88⟩ := Holds.facts (H5)
    go_wp2_with fail
    have H13 := Holds.blkFull (H5) [.int .i64 0, .string ⟨#[]⟩, .int .i64 0, .int .i64 0, .int .i64 0, .int .i64 0, .slice none 0 0] rfl
    clear l88 n88 c88 z88
    generalize hw9 : World.setCell .. = w13
    replace H13 := Holds.at hw9 H13
    clear hw9
    refine bodyPost_ret (results_cell3 rfl _ _ z tRec _ (0, 0) _ rfl H13.blkAt Try.underlying108 rfl (by kernel_rfl)) rfl ?_
    exact HK.out R zeroRc 0 false _ (Snap.le.refl _) (.inr ⟨rfl, rfl, rfl, fun r h1 h2 => by have := (HSY.out r h1 h2).2.2.2.2.2.2.1; omega⟩) Rd.nil ZSZ.out (H13.drop.drop.weaken le3)
  have t1 : decide ((N : Int) < (n : Int)) = false := by simp; omega
  have t1n : decide (N < n) = false := by simp; omega
  have hsub := RdBB.sub HR.out 1 n c (by omega) (by have := HN.out; omega) (by omega) (Nat.le_refl _)
  obtain ⟨bs, hbs⟩ : ∃ bs, bs = tl.map Prod.snd := ⟨_, rfl⟩
  have hsb : (((((Value.slice a0 b0.length c0, b0) : Value × List UInt8) :: tl).drop 1).take (n - 1)).map Prod.snd = bs.take (n - 1) := by
    rw [List.drop_one, List.tail_cons, List.map_take, hbs]
  have hsl : (((((Value.slice a0 b0.length c0, b0) : Value × List UInt8) :: tl).drop 1).take (n - 1)).length ≤ 1000 := by
    rw [List.length_take]; omega
  rw [← hbs] at HSY
  have HBS := Hid.mk' hbs
  have i3 : (n : Int) ≤ (c : Int) := by omega
  have i4 : (1 : Int) ≤ (n : Int) := by omega
  have hgt' : n ≤ N := by omega
  have HSUB := Hid.mk' (hsub.le le3)
  have HSB := Hid.mk' hsb
  have HSL := Hid.mk' hsl
  clear hbs hsb hsl hgt hsub
  obtain ⟨l9, n9, c9, z9⟩ := Holds.facts (H5.swap)
  go_wp2_with fail
  refine (share_spec H5 hT3 HSUB.out HSL.out).mono ?_
  rintro e w7 ⟨o7, rfl, H7⟩
  rw [HSB.out] at H7
  obtain ⟨out, hout⟩ : ∃ out, out = shareG (bs.take (n - 1)) := ⟨_, rfl⟩
  rw [← hout] at H7
  have hol : out.length ≤ 2550 := by
    rw [hout]
    unfold shareG
    split
    · have h1 := flatT_len (bs.take (n - 1))
      have h2 : (bs.take (n - 1)).length ≤ 9 := by rw [List.length_take]; omega
      omega
    · simp
  have HOUT := Hid.mk' hout
  clear hout H5 l9 n9 c9 z9
  obtain ⟨R8, le8, H8, hr8⟩ := H7.freezeRow
  obtain ⟨a8, c8, rfl⟩ := hr8.form
  obtain ⟨m, hm⟩ : ∃ m, m = out.length := ⟨_, rfl⟩
  have HR8 := Hid.mk' hr8
  have HM := Hid.mk' hm
  rw [← hm] at hol
  simp only [← hm]
  have hT8 := le8.blk _ _ hT3
  clear H7 hr8 hm
  obtain ⟨l9, n9, c9, z9⟩ := Holds.facts (H8.swap)
  go_upto_region 11 with fail
  have H9 := (H8.swap.set 6 (.slice a8 m c8)).swap
  replace H9 : Holds _ R8 (star (blk z zeroRec tRec) (star (blk g9 #[.int .i64 kind, .string name, .int .i64 attempt, .int .i64 epoch, .int .i64 mark, .int .i64 size, .slice a8 m c8] tRec) L)) := H9
  clear H8 l9 n9 c9 z9
  generalize (World.setCell ..) = w9 at H9 ⊢
  obtain ⟨M, hMM⟩ : ∃ M : Rc, M = ⟨kind, name, attempt, epoch, mark, size, .slice a8 m c8, out⟩ := ⟨_, rfl⟩
  have hMR : M.Rd R8.cell? := by rw [hMM]; exact RdB.at_len HR8.out HM.out.symm
  have hMZ : M.Sz := by rw [hMM]; exact ⟨by simp only [maxLen]; omega, by show out.length ≤ 1000000; rw [← HM.out]; omega⟩
  have hsy : ∀ r : Rc, rcOk r = true → putR r <+: b0 :: bs → M.con = r.con ∧ n = (putR r).length := fun r h1 h2 => by
    obtain ⟨c1, c2, c3, c4, c5, c6, c7, c8, c9⟩ := HSY.out r h1 h2
    refine ⟨?_, by rw [putR_len, c8]⟩
    rw [hMM]
    simp only [Rc.con, Prod.mk.injEq, List.cons.injEq, and_true]
    exact ⟨⟨c1, c3, c4, c5, c6⟩, c2, by rw [HOUT.out, c9]⟩
  have HMR := Hid.mk' hMR
  have HMZ := Hid.mk' hMZ
  replace HSY := Hid.mk' hsy
  have hMc : M.cells = [.int .i64 kind, .string name, .int .i64 attempt, .int .i64 epoch, .int .i64 mark, .int .i64 size, .slice a8 m c8] := by rw [hMM]; rfl
  have HMC := Hid.mk' hMc
  have HCL := Hid.mk' (show (Value.agg #[.int .i64 kind, .string name, .int .i64 attempt, .int .i64 epoch, .int .i64 mark, .int .i64 size, .slice a8 m c8]) = .agg M.cells.toArray by rw [hMc])
  clear hMM hMR hMZ hsy hMc HCM HPL HQ HOUT HSUB HSB HSL
  obtain ⟨l9, n9, c9, z9⟩ := Holds.facts (H9.swap)
  go_wp2_with fail
  obtain ⟨ok, hok⟩ : ∃ ok, ok = rcOk M := ⟨_, rfl⟩
  have HOK := Hid.mk' hok.symm
  clear hok
  have leA := le3.trans le8
  cases ok with
  | false =>
    rw [HCL.out]
    refine (recPut_bad M H9 HMR.out HMZ.out HOK.out).mono ?_
    rintro e w10 ⟨rfl, H10⟩
    clear H9 l9 n9 c9 z9
    obtain ⟨l88, n88, c88, z88⟩ := Holds.facts (H10)
    go_wp2_with fail
    have H13 := Holds.blkFull (H10) [.int .i64 0, .string ⟨#[]⟩, .int .i64 0, .int .i64 0, .int .i64 0, .int .i64 0, .slice none 0 0] rfl
    clear l88 n88 c88 z88
    generalize hw9 : World.setCell .. = w13
    replace H13 := Holds.at hw9 H13
    clear hw9
    refine bodyPost_ret (results_cell3 rfl _ _ z tRec _ (0, 0) _ rfl H13.blkAt Try.underlying108 rfl (by kernel_rfl)) rfl ?_
    exact HK.out R zeroRc 0 false _ (Snap.le.refl _) (.inr ⟨rfl, rfl, rfl, fun r h1 h2 => by
      have h3 := (HSY.out r h1 (by rw [HBS.out]; exact h2)).1
      rw [rcOk_con h3, h1] at HOK
      cases HOK.out⟩) Rd.nil ZSZ.out (H13.drop.drop.weaken leA)
  | true =>
    rw [HCL.out]
    refine (recPut_ok M H9 (celly_star (celly_blk _ _ _) (celly_star (celly_blk _ _ _) hcy)) hT8 HMR.out HMZ.out HOK.out).mono ?_
    rintro e w10 ⟨o, q, rfl, hq, H10⟩
    obtain ⟨R11, le11, H11, hqq⟩ := freezeBB H10
    obtain ⟨ao, co, rfl⟩ := hqq.form
    obtain ⟨G, hG⟩ : ∃ G, G = q.length := ⟨_, rfl⟩
    have hpl : (putR M).length = G := by rw [← hq, List.length_map, hG]
    have HQQ := Hid.mk' hqq
    have HQ := Hid.mk' hq
    have HG := Hid.mk' hG
    have HPL := Hid.mk' hpl
    simp only [← hG]
    replace leA := leA.trans le11
    clear H9 l9 n9 c9 z9 H10 hqq hq hG hpl
    have hsz : R8.le R11 := le11
    by_cases hGn : G = n
    · have t2 : ((G : Int) != (n : Int)) = false := by simp; omega
      have HGN := Hid.mk' hGn
      clear hGn
      go_wp2_with fail
      go_loop [67] (fun i => ∃ j : Nat, i = .int .i64 j ∧ j ≤ G ∧ Hid (∀ k, k < j → (putR M)[k]? = (b0 :: bs)[k]?)) (fun i => G - (intOf i).toNat)
      case atStart => exact ⟨0, rfl, Nat.zero_le _, Hid.mk' (fun k h => absurd h (Nat.not_lt_zero k))⟩
      case round =>
        obtain ⟨j, rfl, hj, hA⟩ := hrel
        by_cases hlt : j < G
        · have d1 : decide ((j : Int) < (G : Int)) = true := by simp; omega
          have hjq : j < q.length := by rw [← HG.out]; exact hlt
          obtain ⟨b2, o2, ha2, hc2, hq2⟩ := RdBB.at HQQ.out hjq
          subst ha2
          have hjs : j < (((Value.slice a0 b0.length c0, b0) : Value × List UInt8) :: tl).length := by rw [← HN.out]; have := HGN.out; omega
          obtain ⟨b3, o3, ha3, hc3, hq3⟩ := RdBB.at (HR.out.le leA) hjs
          simp only [Option.some.injEq, Addr.mk.injEq, and_true] at ha3
          obtain ⟨rfl, rfl⟩ := ha3
          have e2 : q[j].2 = (putR M)[j]'(by rw [HPL.out]; exact hlt) := by simp [← HQ.out]
          have e3 : ((((Value.slice a0 b0.length c0, b0) : Value × List UInt8) :: tl)[j]).2 = (b0 :: bs)[j]'(by rw [HBS.out]; simpa using hjs) := by
            have : (b0 :: bs) = ((((Value.slice a0 b0.length c0, b0) : Value × List UInt8) :: tl)).map Prod.snd := by rw [HBS.out]; rfl
            simp only [this, List.getElem_map]
          obtain ⟨v2, hv2⟩ : ∃ v, v = q[j].1 := ⟨_, rfl⟩
          obtain ⟨l2, hl2⟩ : ∃ l, l = q[j].2 := ⟨_, rfl⟩
          obtain ⟨v3, hv3⟩ : ∃ v, v = ((((Value.slice a0 b0.length c0, b0) : Value × List UInt8) :: tl)[j]).1 := ⟨_, rfl⟩
          obtain ⟨l3, hl3⟩ : ∃ l, l = ((((Value.slice a0 b0.length c0, b0) : Value × List UInt8) :: tl)[j]).2 := ⟨_, rfl⟩
          rw [← hv2] at hc2
          rw [← hv3] at hc3
          rw [← hv2, ← hl2] at hq2
          rw [← hv3, ← hl3] at hq3
          have g2 : (putR M)[j]? = some l2 := by rw [List.getElem?_eq_getElem (by rw [HPL.out]; exact hlt), hl2, e2]
          have g3 : (b0 :: bs)[j]? = some l3 := by rw [List.getElem?_eq_getElem (by rw [HBS.out]; simpa using hjs), hl3, e3]
          replace hc2 := H11.cell hc2
          replace hc3 := H11.cell hc3
          obtain ⟨av2, cv2, rfl⟩ := hq2.form
          obtain ⟨av3, cv3, rfl⟩ := hq3.form
          have HE := Hid.mk' (bytesEqual_spec (Rd.world hq2 H11) (Rd.world hq3 H11))
          have G2 := Hid.mk' g2
          have G3 := Hid.mk' g3
          have i5 : (0 : Int) ≤ (j : Int) := by omega
          have i6 : (j : Int) < (G : Int) := by omega
          have i7 : (j : Int) < (N : Int) := by have := HGN.out; omega
          clear e2 e3 hv2 hl2 hv3 hl3 g2 g3 hq2 hq3 hjs hjq
          go_wp2_with fail
          refine HE.out.mono ?_
          rintro e w12 ⟨rfl, rfl⟩
          by_cases hll : l2 = l3
          · rw [decide_eq_true hll]
            have HLL := Hid.mk' hll
            clear hll
            go_wp2_with fail
            go_round
            case rel =>
              refine ⟨j + 1, by go_num, hlt, Hid.mk' (fun k h2 => ?_)⟩
              rcases Nat.lt_or_ge k j with h3 | h3
              · exact hA.out k h3
              · obtain rfl : k = j := by omega
                rw [G2.out, G3.out, HLL.out]
            case measure => simp [intOf]; omega
          · rw [decide_eq_false hll]
            have HLL := Hid.mk' hll
            clear hll
            obtain ⟨l88, n88, c88, z88⟩ := Holds.facts (H11)
            go_wp2_with fail
            have H13 := Holds.blkFull (H11) [.int .i64 0, .string ⟨#[]⟩, .int .i64 0, .int .i64 0, .int .i64 0, .int .i64 0, .slice none 0 0] rfl
            clear l88 n88 c88 z88
            generalize hw9 : World.setCell .. = w13
            replace H13 := Holds.at hw9 H13
            clear hw9
            refine bodyPost_ret (results_cell3 rfl _ _ z tRec _ (0, 0) _ rfl H13.blkAt Try.underlying108 rfl (by kernel_rfl)) rfl ?_
            exact HK.out R zeroRc 0 false _ (Snap.le.refl _) (.inr ⟨rfl, rfl, rfl, fun r h1 h2 => by
              have h2' : putR r <+: b0 :: bs := by rw [HBS.out]; exact h2
              have h3 := putR_con (HSY.out r h1 h2').1
              rw [← h3] at h2'
              obtain ⟨t, ht⟩ := h2'
              have h4 : (b0 :: bs)[j]? = (putR M)[j]? := by rw [← ht, List.getElem?_append_left (by rw [HPL.out]; exact hlt)]
              rw [G2.out, G3.out] at h4
              exact HLL.out (Option.some.inj h4).symm⟩) Rd.nil ZSZ.out (H13.drop.drop.weaken leA)
        · have d1 : decide ((j : Int) < (G : Int)) = false := by simp; omega
          obtain rfl : j = G := by omega
          have hpre : putR M <+: b0 :: bs := by
            rw [List.prefix_iff_eq_take]
            apply List.ext_getElem?
            intro k
            rw [List.getElem?_take, HPL.out]
            split
            · exact hA.out k (by assumption)
            · rw [List.getElem?_eq_none]; rw [HPL.out]; omega
          have HPRE := Hid.mk' hpre
          clear hpre hA
          obtain ⟨l9, n9, c9, z9⟩ := Holds.facts (H11.swap)
          obtain ⟨l98, n98, c98, z98⟩ := Holds.facts (H11)
          obtain ⟨s1, s2⟩ := Holds.apart H11
          go_wp2_with fail
          have H13 := Holds.blkFull H11 [.int .i64 kind, .string name, .int .i64 attempt, .int .i64 epoch, .int .i64 mark, .int .i64 size, .slice a8 m c8] rfl
          clear l9 n9 c9 z9 l98 n98 c98 z98 s1 s2
          generalize hw9 : World.setCell .. = w13
          replace H13 := Holds.at hw9 H13
          clear hw9
          refine bodyPost_ret (results_cell3 rfl _ _ z tRec _ (0, 0) _ rfl H13.blkAt Try.underlying108 rfl (by kernel_rfl)) rfl ?_
          have hfin := HK.out R11 M n true _ leA (.inl ⟨rfl, HOK.out, by have := HPRE.out; rw [HBS.out] at this; exact this, by rw [HPL.out]; exact HGN.out.symm⟩) (HMR.out.le hsz) HMZ.out H13.drop.drop
          rw [← HCL.out] at hfin
          exact hfin
    · have t2 : ((G : Int) != (n : Int)) = true := by simp; omega
      have HGN := Hid.mk' hGn
      clear hGn
      obtain ⟨l88, n88, c88, z88⟩ := Holds.facts (H11)
      go_wp2_with fail
      have H13 := Holds.blkFull (H11) [.int .i64 0, .string ⟨#[]⟩, .int .i64 0, .int .i64 0, .int .i64 0, .int .i64 0, .slice none 0 0] rfl
      clear l88 n88 c88 z88
      generalize hw9 : World.setCell .. = w13
      replace H13 := Holds.at hw9 H13
      clear hw9
      refine bodyPost_ret (results_cell3 rfl _ _ z tRec _ (0, 0) _ rfl H13.blkAt Try.underlying108 rfl (by kernel_rfl)) rfl ?_
      exact HK.out R zeroRc 0 false _ (Snap.le.refl _) (.inr ⟨rfl, rfl, rfl, fun r h1 h2 => by
        have h3 := HSY.out r h1 (by rw [HBS.out]; exact h2)
        have h4 := putR_con h3.1
        rw [← h4, HPL.out] at h3
        exact HGN.out h3.2.symm⟩) Rd.nil ZSZ.out (H13.drop.drop.weaken leA)
end Sh
/- sherdref08.SameInts, sherdref07.Same, Far; sherdref25.Same, SameAll, Far. -/
set_option linter.unusedVariables false
set_option linter.unusedSimpArgs false
namespace Sh
open Go Go.RowKit Go.Proofs
attribute [local go_sem ↓] Go.wp_at_zero Go.wp_at_succ
set_option maxHeartbeats 1000000
set_option maxRecDepth 100000

theorem take_snoc_any {α : Type} {l k : List α} {j : Nat} (hl : j < l.length) (hk : j < k.length) (h : l.take j = k.take j) (e : l[j] = k[j]) : l.take (j + 1) = k.take (j + 1) := by
  rw [List.take_succ_eq_append_getElem hl, List.take_succ_eq_append_getElem hk, h, e]
theorem strEq (x y : ByteArray) : (x.toList == y.toList) = decide (x = y) := by
  rw [ByteArray.toList_eq, ByteArray.toList_eq, Bool.eq_iff_iff, beq_iff_eq, decide_eq_true_eq]
  constructor
  · intro h
    obtain ⟨⟨a⟩⟩ := x
    obtain ⟨⟨b⟩⟩ := y
    simp only at h
    rw [h]
  · rintro rfl; rfl
theorem sameInts_spec {w : World} {R : Snap} {L : Asrt} {u v : Value} {l k : List Int} (H : Holds w R L) (hu : ∀ w', Holds w' R L → RdI w'.cell? u l) (hv : ∀ w', Holds w' R L → RdI w'.cell? v k) (hl : l.length ≤ 1000000) (hk : k.length ≤ 1000000) :
    Calls Try.prog 113 #[u, v] w fun e w' => e = .returned (.bool (decide (l = k))) ∧ Holds w' R L := by
  obtain ⟨a, ca, rfl⟩ := (hu w H).form
  obtain ⟨b, cb, rfl⟩ := (hv w H).form
  by_cases hlen : l.length = k.length
  · obtain ⟨n, hn⟩ : ∃ n, n = k.length := ⟨_, rfl⟩
    have HL : Hid (l.length = n) := Hid.mk' (by omega)
    have HK : Hid (k.length = n) := Hid.mk' hn.symm
    have HU := Hid.mk' hu
    have HV := Hid.mk' hv
    rw [hlen, ← hn]
    have hn9 : n ≤ 1000000 := by omega
    clear hlen hn hu hv
    go_enter Try.func113, Try.ntmps113
    go_wp2_with fail
    go_loopw [5] (fun i wr => ∃ j : Nat, i = .int .i64 j ∧ j ≤ n ∧ Hid (l.take j = k.take j) ∧ Holds wr R L) (fun i _ => n - (intOf i).toNat)
    case atStart => exact ⟨0, rfl, Nat.zero_le _, rfl, H⟩
    case round =>
      clear H
      obtain ⟨j, rfl, hj, ht, H1⟩ := hrel
      by_cases hlt : j < n
      · have hjl : j < l.length := by have := HL.out; omega
        have hjk : j < k.length := by have := HK.out; omega
        have hu1 := HU.out _ H1
        have hv1 := HV.out _ H1
        obtain ⟨b1, o1, ha, c1⟩ := rdI_at hu1 hjl
        subst ha
        obtain ⟨b2, o2, ha, c2⟩ := rdI_at hv1 hjk
        subst ha
        obtain ⟨x, hx⟩ : ∃ x, x = l[j] := ⟨_, rfl⟩
        obtain ⟨y, hy⟩ : ∃ y, y = k[j] := ⟨_, rfl⟩
        rw [← hx] at c1
        rw [← hy] at c2
        have HXY := Hid.mk' (And.intro hx hy)
        clear hx hy hu1 hv1
        cases hxy : x != y with
        | true =>
          go_wp2_with fail
          go_quiet (fail)
          go_wp2_with fail
          go_ret
          refine ⟨ret_bool ?_, H1.drewN _⟩
          symm; rw [decide_eq_false_iff_not]
          intro e
          have h1 := HXY.out.1
          have h2 := HXY.out.2
          subst e
          rw [h1, h2] at hxy
          simp at hxy
        | false =>
          go_wp2_with fail
          go_quiet (fail)
          go_wp2_with fail
          go_roundw
          case rel =>
            refine ⟨j + 1, by go_num, hlt, Hid.mk' ?_, H1.drewN _⟩
            have e : x = y := by simpa using hxy
            exact take_snoc_any hjl hjk ht.out (by rw [← HXY.out.1, ← HXY.out.2, e])
          case measure => simp [intOf]; omega
      · go_wp2_with fail
        go_ret
        refine ⟨ret_bool ?_, H1⟩
        symm; rw [decide_eq_true_eq]
        have h1 := ht.out
        have h2 := HL.out
        have h3 := HK.out
        rwa [List.take_of_length_le (by omega), List.take_of_length_le (by omega)] at h1
  · have h1 : ((l.length : Int) != (k.length : Int)) = true := by simp; omega
    go_enter Try.func113, Try.ntmps113
    go_wp2_with fail
    go_ret
    exact ⟨ret_bool (by symm; rw [decide_eq_false_iff_not]; rintro rfl; exact hlen rfl), H⟩
theorem sameStrs_spec {w : World} {R : Snap} {L : Asrt} {u v : Value} {l k : List ByteArray} (H : Holds w R L) (hu : ∀ w', Holds w' R L → RdS w'.cell? u l) (hv : ∀ w', Holds w' R L → RdS w'.cell? v k) (hl : l.length ≤ 1000000) (hk : k.length ≤ 1000000) :
    Calls Try.prog 114 #[u, v] w fun e w' => e = .returned (.bool (decide (l = k))) ∧ Holds w' R L := by
  obtain ⟨a, ca, rfl⟩ := (hu w H).form
  obtain ⟨b, cb, rfl⟩ := (hv w H).form
  by_cases hlen : l.length = k.length
  · obtain ⟨n, hn⟩ : ∃ n, n = k.length := ⟨_, rfl⟩
    have HL : Hid (l.length = n) := Hid.mk' (by omega)
    have HK : Hid (k.length = n) := Hid.mk' hn.symm
    have HU := Hid.mk' hu
    have HV := Hid.mk' hv
    rw [hlen, ← hn]
    have hn9 : n ≤ 1000000 := by omega
    clear hlen hn hu hv
    go_enter Try.func114, Try.ntmps114
    go_wp2_with fail
    go_loopw [5] (fun i wr => ∃ j : Nat, i = .int .i64 j ∧ j ≤ n ∧ Hid (l.take j = k.take j) ∧ Holds wr R L) (fun i _ => n - (intOf i).toNat)
    case atStart => exact ⟨0, rfl, Nat.zero_le _, rfl, H⟩
    case round =>
      clear H
      obtain ⟨j, rfl, hj, ht, H1⟩ := hrel
      by_cases hlt : j < n
      · have hjl : j < l.length := by have := HL.out; omega
        have hjk : j < k.length := by have := HK.out; omega
        have hu1 := HU.out _ H1
        have hv1 := HV.out _ H1
        obtain ⟨b1, o1, ha, c1⟩ := rdS_at hu1 hjl
        subst ha
        obtain ⟨b2, o2, ha, c2⟩ := rdS_at hv1 hjk
        subst ha
        obtain ⟨x, hx⟩ : ∃ x, x = l[j] := ⟨_, rfl⟩
        obtain ⟨y, hy⟩ : ∃ y, y = k[j] := ⟨_, rfl⟩
        rw [← hx] at c1
        rw [← hy] at c2
        have HXY := Hid.mk' (And.intro hx hy)
        clear hx hy hu1 hv1
        go_wp2_with fail
        go_quiet (fail)
        go_wp2_with fail
        · rename_i hxy
          go_ret
          refine ⟨ret_bool ?_, H1.drewN _⟩
          symm; rw [decide_eq_false_iff_not]
          intro e
          have h1 := HXY.out.1
          have h2 := HXY.out.2
          have h3 : x = y := by rw [h1, h2]; subst e; rfl
          rw [strEq, h3] at hxy
          simp at hxy
        · rename_i hxy
          go_roundw
          case rel =>
            refine ⟨j + 1, by go_num, hlt, Hid.mk' ?_, H1.drewN _⟩
            rw [strEq] at hxy
            have e : x = y := by simpa using hxy
            exact take_snoc_any hjl hjk ht.out (by rw [← HXY.out.1, ← HXY.out.2, e])
          case measure => simp [intOf]; omega
      · go_wp2_with fail
        go_ret
        refine ⟨ret_bool ?_, H1⟩
        symm; rw [decide_eq_true_eq]
        have h1 := ht.out
        have h2 := HL.out
        have h3 := HK.out
        rwa [List.take_of_length_le (by omega), List.take_of_length_le (by omega)] at h1
  · have h1 : ((l.length : Int) != (k.length : Int)) = true := by simp; omega
    go_enter Try.func114, Try.ntmps114
    go_wp2_with fail
    go_ret
    exact ⟨ret_bool (by symm; rw [decide_eq_false_iff_not]; rintro rfl; exact hlen rfl), H⟩
/-- Two messages' numbers, name and lists are the same. -/
def Ms.nums (m : Ms) : List Int := [m.kind, m.from_, m.to_, m.ballot, m.attempt, m.epoch, m.mark, m.size, m.what]
def msSame (m x : Ms) : Bool := decide (m.nums = x.nums) && decide (m.name = x.name) && decide (m.who = x.who) && decide (m.names = x.names) && decide (m.data = x.data)
theorem msSame_no1 {m x : Ms} (h : ¬ m.nums = x.nums) : false = msSame m x := by simp [msSame, h]
theorem msSame_yes {m x : Ms} (h1 : m.nums = x.nums) (h2 : m.name = x.name) (h3 : m.who = x.who) (h4 : m.names = x.names) {l k : List UInt8} (hl : l = m.data) (hk : k = x.data) : decide (l = k) = msSame m x := by subst hl hk; simp [msSame, h1, h2, h3, h4]
theorem same25_spec {w : World} {R : Snap} {L : Asrt} (m x : Ms) (H : Holds w R L) (hm : m.Rd R.cell?) (hz : m.Sz) (hx : x.Rd R.cell?) (hzx : x.Sz) :
    Calls Try.prog 41 #[.agg m.cells.toArray, .agg x.cells.toArray] w fun e w' => e = .returned (.bool (msSame m x)) ∧ Holds w' R L := by
  obtain ⟨y, hy⟩ : ∃ y, y = msSame m x := ⟨_, rfl⟩
  rw [← hy]
  obtain ⟨kind, from_, to_, ballot, name, attempt, epoch, mark, size, what, vw, vn, vd, who, names, data⟩ := m
  obtain ⟨kind', from', to', ballot', name', attempt', epoch', mark', size', what', vw', vn', vd', who', names', data'⟩ := x
  obtain ⟨hw, hn, hd⟩ := hm
  obtain ⟨hw', hn', hd'⟩ := hx
  obtain ⟨z1, z2, z3, z4, z5⟩ := hz
  obtain ⟨y1, y2, y3, y4, y5⟩ := hzx
  simp only at z1 z2 z3 z4 z5 y1 y2 y3 y4 y5 hw hn hd hw' hn' hd'
  obtain ⟨aw, cw, rfl⟩ := hw.form
  obtain ⟨an, cn, rfl⟩ := hn.form
  obtain ⟨ad, cd, rfl⟩ := hd.form
  obtain ⟨aw', cw', rfl⟩ := hw'.form
  obtain ⟨an', cn', rfl⟩ := hn'.form
  obtain ⟨ad', cd', rfl⟩ := hd'.form
  obtain ⟨R1, le1, H1, hb⟩ := H.allocR (.cells #[.int .i64 kind, .int .i64 from_, .int .i64 to_, .int .i64 ballot, .string name, .int .i64 attempt, .int .i64 epoch, .int .i64 mark, .int .i64 size, .int .i64 what, .slice aw who.length cw, .slice an names.length cn, .slice ad data.length cd] tMsg (0, 0))
  obtain ⟨R2, le2, H2, hb2⟩ := H1.allocR (.cells #[.int .i64 kind', .int .i64 from', .int .i64 to', .int .i64 ballot', .string name', .int .i64 attempt', .int .i64 epoch', .int .i64 mark', .int .i64 size', .int .i64 what', .slice aw' who'.length cw', .slice an' names'.length cn', .slice ad' data'.length cd'] tMsg (0, 0))
  simp only [World.size_alloc] at hb2
  have hb1 := le2.blk _ _ hb
  have le := le1.trans le2
  have HY := Hid.mk' hy
  have HW := Hid.mk' (Rd.le hw le)
  have HN := Hid.mk' (Rd.le hn le)
  have HD := Hid.mk' (Rd.le hd le)
  have HW' := Hid.mk' (Rd.le hw' le)
  have HN' := Hid.mk' (Rd.le hn' le)
  have HD' := Hid.mk' (Rd.le hd' le)
  have H3 := (H2.alloc #[.int .i64 kind, .int .i64 from_, .int .i64 to_, .int .i64 ballot, .int .i64 attempt, .int .i64 epoch, .int .i64 mark, .int .i64 size, .int .i64 what] tInt).alloc #[.int .i64 kind', .int .i64 from', .int .i64 to', .int .i64 ballot', .int .i64 attempt', .int .i64 epoch', .int .i64 mark', .int .i64 size', .int .i64 what'] tInt
  simp only [World.size_alloc] at H3
  show Calls _ _ #[.agg #[.int .i64 kind, .int .i64 from_, .int .i64 to_, .int .i64 ballot, .string name, .int .i64 attempt, .int .i64 epoch, .int .i64 mark, .int .i64 size, .int .i64 what, .slice aw who.length cw, .slice an names.length cn, .slice ad data.length cd], .agg #[.int .i64 kind', .int .i64 from', .int .i64 to', .int .i64 ballot', .string name', .int .i64 attempt', .int .i64 epoch', .int .i64 mark', .int .i64 size', .int .i64 what', .slice aw' who'.length cw', .slice an' names'.length cn', .slice ad' data'.length cd']] _ _
  clear hw hn hd hw' hn' hd' hy hb H H1
  go_enter Try.func41, Try.ntmps41
  go_wp2_with fail
  generalize hg : w.heap.size = g at *
  clear hg
  refine (sameInts_spec (l := [kind, from_, to_, ballot, attempt, epoch, mark, size, what]) (k := [kind', from', to', ballot', attempt', epoch', mark', size', what']) H3 (fun w' h => (h.drop.toRow 1 9 9 (Nat.le_refl _) (by decide) rfl).rowRd) (fun w' h => (h.toRow 1 9 9 (Nat.le_refl _) (by decide) rfl).rowRd) (by simp) (by simp)).mono ?_
  rintro e w4 ⟨rfl, H4⟩
  replace H4 := H4.drop.drop
  clear H3 H2
  obtain ⟨l4, n4, c4⟩ := Holds.frzFacts (H4) hb1
  obtain ⟨l5, n5, c5⟩ := Holds.frzFacts (H4) hb2
  by_cases q1 : [kind, from_, to_, ballot, attempt, epoch, mark, size, what] = [kind', from', to', ballot', attempt', epoch', mark', size', what']
  case neg =>
    rw [decide_eq_false q1]
    have Q1 := Hid.mk' q1
    clear q1
    go_wp2_with fail
    go_ret
    exact ⟨ret_bool (by rw [HY.out]; exact msSame_no1 Q1.out), H4.weaken le⟩
  rw [decide_eq_true q1]
  have Q1 := Hid.mk' q1
  clear q1
  have es := strEq name name'
  by_cases q2 : name = name'
  case neg =>
    rw [decide_eq_false q2] at es
    have Q2 := Hid.mk' q2
    clear q2
    go_wp2_with fail
    go_ret
    exact ⟨ret_bool (by rw [HY.out, msSame]; simp only [decide_eq_false Q2.out, Bool.false_and, Bool.and_false]), H4.weaken le⟩
  rw [decide_eq_true q2] at es
  have Q2 := Hid.mk' q2
  clear q2
  go_wp2_with fail
  refine (sameInts_spec H4 (fun w' h => Rd.world HW.out h) (fun w' h => Rd.world HW'.out h) z3 y3).mono ?_
  rintro e w6 ⟨rfl, H6⟩
  clear H4 l4 n4 c4 l5 n5 c5
  obtain ⟨l4, n4, c4⟩ := Holds.frzFacts (H6) hb1
  obtain ⟨l5, n5, c5⟩ := Holds.frzFacts (H6) hb2
  by_cases q3 : who = who'
  case neg =>
    rw [decide_eq_false q3]
    have Q3 := Hid.mk' q3
    clear q3
    go_wp2_with fail
    go_ret
    exact ⟨ret_bool (by rw [HY.out, msSame]; simp only [decide_eq_false Q3.out, Bool.false_and, Bool.and_false]), H6.weaken le⟩
  rw [decide_eq_true q3]
  have Q3 := Hid.mk' q3
  clear q3
  go_wp2_with fail
  refine (sameStrs_spec H6 (fun w' h => Rd.world HN.out h) (fun w' h => Rd.world HN'.out h) z4 y4).mono ?_
  rintro e w7 ⟨rfl, H7⟩
  clear H6 l4 n4 c4 l5 n5 c5
  obtain ⟨l4, n4, c4⟩ := Holds.frzFacts (H7) hb1
  obtain ⟨l5, n5, c5⟩ := Holds.frzFacts (H7) hb2
  by_cases q4 : names = names'
  case neg =>
    rw [decide_eq_false q4]
    have Q4 := Hid.mk' q4
    clear q4
    go_wp2_with fail
    go_ret
    exact ⟨ret_bool (by rw [HY.out, msSame]; simp only [decide_eq_false Q4.out, Bool.false_and, Bool.and_false]), H7.weaken le⟩
  rw [decide_eq_true q4]
  have Q4 := Hid.mk' q4
  clear q4
  go_wp2_with fail
  refine (same_spec (Rd.world HD.out H7) (Rd.world HD'.out H7) z5 y5).mono ?_
  rintro e w8 ⟨rfl, q, rfl⟩
  go_wp2_with fail
  go_ret
  exact ⟨ret_bool (by rw [HY.out]; refine msSame_yes ?_ ?_ ?_ ?_ ?_ ?_; exact Q1.out; exact Q2.out; exact Q3.out; exact Q4.out; rfl; rfl), (H7.drewN q).weaken le⟩
end Sh
/- Are two records the same? Both. -/
set_option linter.unusedVariables false
set_option linter.unusedSimpArgs false
namespace Sh
open Go Go.RowKit Go.Proofs
attribute [local go_sem ↓] Go.wp_at_zero Go.wp_at_succ
set_option maxHeartbeats 1000000
set_option maxRecDepth 100000

def rcSame (m x : Rc) : Bool := decide (m.con = x.con)
theorem rcSame_yes {m x : Rc} (h : m.con = x.con) : rcSame m x = true := decide_eq_true h
theorem rcSame_of {m x : Rc} (h : rcSame m x = true) : m.con = x.con := of_decide_eq_true h
set_option maxHeartbeats 8000000
theorem recSame_spec {w : World} {R : Snap} {L : Asrt} (m x : Rc) (H : Holds w R L) (hm : m.Rd R.cell?) (hz : m.Sz) (hx : x.Rd R.cell?) (hzx : x.Sz) :
    Calls Try.prog 79 #[.agg m.cells.toArray, .agg x.cells.toArray] w fun e w' => e = .returned (.bool (rcSame m x)) ∧ Holds w' R L := by
  obtain ⟨y, hy⟩ : ∃ y, y = rcSame m x := ⟨_, rfl⟩
  rw [← hy]
  obtain ⟨kind, name, attempt, epoch, mark, size, vs, share⟩ := m
  obtain ⟨z1, z2⟩ := hz
  have hs := hm
  simp only [Rc.Rd] at z1 z2 hs
  obtain ⟨as_, cs_, rfl⟩ := hs.form
  obtain ⟨kind', name', attempt', epoch', mark', size', vs', share'⟩ := x
  obtain ⟨z3, z4⟩ := hzx
  have hs' := hx
  simp only [Rc.Rd] at z3 z4 hs'
  obtain ⟨as', cs', rfl⟩ := hs'.form
  obtain ⟨R1, le1, H1, hb⟩ := H.allocR (.cells #[.int .i64 kind, .string name, .int .i64 attempt, .int .i64 epoch, .int .i64 mark, .int .i64 size, .slice as_ share.length cs_] tRec (0, 0))
  obtain ⟨R2, le2, H2, hb2⟩ := H1.allocR (.cells #[.int .i64 kind', .string name', .int .i64 attempt', .int .i64 epoch', .int .i64 mark', .int .i64 size', .slice as' share'.length cs'] tRec (0, 0))
  simp only [World.size_alloc] at hb2
  have hb1 := le2.blk _ _ hb
  have le := le1.trans le2
  have HY := Hid.mk' hy
  have HS := Hid.mk' (Sh.Rd.le hs le)
  have HS' := Hid.mk' (Sh.Rd.le hs' le)
  have Z2 := Hid.mk' z2
  have Z4 := Hid.mk' z4
  obtain ⟨l4, n4, c4⟩ := Holds.frzFacts (H2) hb1
  obtain ⟨l5, n5, c5⟩ := Holds.frzFacts (H2) hb2
  show Calls _ _ #[.agg #[.int .i64 kind, .string name, .int .i64 attempt, .int .i64 epoch, .int .i64 mark, .int .i64 size, .slice as_ share.length cs_], .agg #[.int .i64 kind', .string name', .int .i64 attempt', .int .i64 epoch', .int .i64 mark', .int .i64 size', .slice as' share'.length cs']] _ _
  have NO : Hid (((⟨kind, name, attempt, epoch, mark, size, .slice as_ share.length cs_, share⟩ : Rc)).con ≠ ((⟨kind', name', attempt', epoch', mark', size', .slice as' share'.length cs', share'⟩ : Rc)).con → false = y) := Hid.mk' (fun h => by rw [HY.out]; exact (decide_eq_false h).symm)
  have es := strEq name name'
  clear hs hs' hy hb H H1 z1 z2 z3 z4 hm hx
  by_cases q : kind = kind'
  case neg =>
    have u : (kind == kind') = false := by simpa using q
    have Q := Hid.mk' q
    clear q
    go_enter Try.func79, Try.ntmps79
    go_wp2_with fail
    go_ret
    exact ⟨ret_bool (NO.out (fun h => Q.out (by simp only [Rc.con, Prod.mk.injEq, List.cons.injEq] at h; simp only [h]))), H2.weaken le⟩
  have u0 : (kind == kind') = true := by simpa using q
  have Q0 := Hid.mk' q
  clear q
  by_cases q : name = name'
  case neg =>
    rw [decide_eq_false q] at es
    have Q := Hid.mk' q
    clear q
    go_enter Try.func79, Try.ntmps79
    go_wp2_with fail
    go_ret
    exact ⟨ret_bool (NO.out (fun h => Q.out (by simp only [Rc.con, Prod.mk.injEq, List.cons.injEq] at h; simp only [h]))), H2.weaken le⟩
  rw [decide_eq_true q] at es
  have Q1 := Hid.mk' q
  clear q
  by_cases q : attempt = attempt'
  case neg =>
    have u : (attempt == attempt') = false := by simpa using q
    have Q := Hid.mk' q
    clear q
    go_enter Try.func79, Try.ntmps79
    go_wp2_with fail
    go_ret
    exact ⟨ret_bool (NO.out (fun h => Q.out (by simp only [Rc.con, Prod.mk.injEq, List.cons.injEq] at h; simp only [h]))), H2.weaken le⟩
  have u2 : (attempt == attempt') = true := by simpa using q
  have Q2 := Hid.mk' q
  clear q
  by_cases q : epoch = epoch'
  case neg =>
    have u : (epoch == epoch') = false := by simpa using q
    have Q := Hid.mk' q
    clear q
    go_enter Try.func79, Try.ntmps79
    go_wp2_with fail
    go_ret
    exact ⟨ret_bool (NO.out (fun h => Q.out (by simp only [Rc.con, Prod.mk.injEq, List.cons.injEq] at h; simp only [h]))), H2.weaken le⟩
  have u3 : (epoch == epoch') = true := by simpa using q
  have Q3 := Hid.mk' q
  clear q
  by_cases q : mark = mark'
  case neg =>
    have u : (mark == mark') = false := by simpa using q
    have Q := Hid.mk' q
    clear q
    go_enter Try.func79, Try.ntmps79
    go_wp2_with fail
    go_ret
    exact ⟨ret_bool (NO.out (fun h => Q.out (by simp only [Rc.con, Prod.mk.injEq, List.cons.injEq] at h; simp only [h]))), H2.weaken le⟩
  have u4 : (mark == mark') = true := by simpa using q
  have Q4 := Hid.mk' q
  clear q
  by_cases q : size = size'
  case neg =>
    have u : (size == size') = false := by simpa using q
    have Q := Hid.mk' q
    clear q
    go_enter Try.func79, Try.ntmps79
    go_wp2_with fail
    go_ret
    exact ⟨ret_bool (NO.out (fun h => Q.out (by simp only [Rc.con, Prod.mk.injEq, List.cons.injEq] at h; simp only [h]))), H2.weaken le⟩
  have u5 : (size == size') = true := by simpa using q
  have Q5 := Hid.mk' q
  clear q
  go_enter Try.func79, Try.ntmps79
  go_wp2_with fail
  refine (bytesEqual_spec (Rd.world HS.out H2) (Rd.world HS'.out H2)).mono ?_
  rintro e w8 ⟨rfl, rfl⟩
  have H3 := H2
  go_wp2_with fail
  go_ret
  refine ⟨ret_bool ?_, (H3).weaken le⟩
  rw [HY.out, rcSame]
  congr 1
  simp only [Rc.con, Q0.out, Q1.out, Q2.out, Q3.out, Q4.out, Q5.out, Prod.mk.injEq, true_and]
theorem rrecSame_spec {w : World} {R : Snap} {L : Asrt} (m x : Rc) (H : Holds w R L) (hm : m.Rd R.cell?) (hz : m.Sz) (hx : x.Rd R.cell?) (hzx : x.Sz) :
    Calls Try.prog 80 #[.agg m.cells.toArray, .agg x.cells.toArray] w fun e w' => e = .returned (.bool (rcSame m x)) ∧ Holds w' R L := by
  obtain ⟨y, hy⟩ : ∃ y, y = rcSame m x := ⟨_, rfl⟩
  rw [← hy]
  obtain ⟨kind, name, attempt, epoch, mark, size, vs, share⟩ := m
  obtain ⟨z1, z2⟩ := hz
  have hs := hm
  simp only [Rc.Rd] at z1 z2 hs
  obtain ⟨as_, cs_, rfl⟩ := hs.form
  obtain ⟨kind', name', attempt', epoch', mark', size', vs', share'⟩ := x
  obtain ⟨z3, z4⟩ := hzx
  have hs' := hx
  simp only [Rc.Rd] at z3 z4 hs'
  obtain ⟨as', cs', rfl⟩ := hs'.form
  obtain ⟨R1, le1, H1, hb⟩ := H.allocR (.cells #[.int .i64 kind, .string name, .int .i64 attempt, .int .i64 epoch, .int .i64 mark, .int .i64 size, .slice as_ share.length cs_] tRec (0, 0))
  obtain ⟨R2, le2, H2, hb2⟩ := H1.allocR (.cells #[.int .i64 kind', .string name', .int .i64 attempt', .int .i64 epoch', .int .i64 mark', .int .i64 size', .slice as' share'.length cs'] tRec (0, 0))
  simp only [World.size_alloc] at hb2
  have hb1 := le2.blk _ _ hb
  have le := le1.trans le2
  have HY := Hid.mk' hy
  have HS := Hid.mk' (Sh.Rd.le hs le)
  have HS' := Hid.mk' (Sh.Rd.le hs' le)
  have Z2 := Hid.mk' z2
  have Z4 := Hid.mk' z4
  obtain ⟨l4, n4, c4⟩ := Holds.frzFacts (H2) hb1
  obtain ⟨l5, n5, c5⟩ := Holds.frzFacts (H2) hb2
  show Calls _ _ #[.agg #[.int .i64 kind, .string name, .int .i64 attempt, .int .i64 epoch, .int .i64 mark, .int .i64 size, .slice as_ share.length cs_], .agg #[.int .i64 kind', .string name', .int .i64 attempt', .int .i64 epoch', .int .i64 mark', .int .i64 size', .slice as' share'.length cs']] _ _
  have NO : Hid (((⟨kind, name, attempt, epoch, mark, size, .slice as_ share.length cs_, share⟩ : Rc)).con ≠ ((⟨kind', name', attempt', epoch', mark', size', .slice as' share'.length cs', share'⟩ : Rc)).con → false = y) := Hid.mk' (fun h => by rw [HY.out]; exact (decide_eq_false h).symm)
  have es := strEq name name'
  clear hs hs' hy hb H H1 z1 z2 z3 z4 hm hx
  by_cases q : kind = kind'
  case neg =>
    have u : (kind == kind') = false := by simpa using q
    have Q := Hid.mk' q
    clear q
    go_enter Try.func80, Try.ntmps80
    go_wp2_with fail
    go_ret
    exact ⟨ret_bool (NO.out (fun h => Q.out (by simp only [Rc.con, Prod.mk.injEq, List.cons.injEq] at h; simp only [h]))), H2.weaken le⟩
  have u0 : (kind == kind') = true := by simpa using q
  have Q0 := Hid.mk' q
  clear q
  by_cases q : name = name'
  case neg =>
    rw [decide_eq_false q] at es
    have Q := Hid.mk' q
    clear q
    go_enter Try.func80, Try.ntmps80
    go_wp2_with fail
    go_ret
    exact ⟨ret_bool (NO.out (fun h => Q.out (by simp only [Rc.con, Prod.mk.injEq, List.cons.injEq] at h; simp only [h]))), H2.weaken le⟩
  rw [decide_eq_true q] at es
  have Q1 := Hid.mk' q
  clear q
  by_cases q : attempt = attempt'
  case neg =>
    have u : (attempt == attempt') = false := by simpa using q
    have Q := Hid.mk' q
    clear q
    go_enter Try.func80, Try.ntmps80
    go_wp2_with fail
    go_ret
    exact ⟨ret_bool (NO.out (fun h => Q.out (by simp only [Rc.con, Prod.mk.injEq, List.cons.injEq] at h; simp only [h]))), H2.weaken le⟩
  have u2 : (attempt == attempt') = true := by simpa using q
  have Q2 := Hid.mk' q
  clear q
  by_cases q : epoch = epoch'
  case neg =>
    have u : (epoch == epoch') = false := by simpa using q
    have Q := Hid.mk' q
    clear q
    go_enter Try.func80, Try.ntmps80
    go_wp2_with fail
    go_ret
    exact ⟨ret_bool (NO.out (fun h => Q.out (by simp only [Rc.con, Prod.mk.injEq, List.cons.injEq] at h; simp only [h]))), H2.weaken le⟩
  have u3 : (epoch == epoch') = true := by simpa using q
  have Q3 := Hid.mk' q
  clear q
  by_cases q : mark = mark'
  case neg =>
    have u : (mark == mark') = false := by simpa using q
    have Q := Hid.mk' q
    clear q
    go_enter Try.func80, Try.ntmps80
    go_wp2_with fail
    go_ret
    exact ⟨ret_bool (NO.out (fun h => Q.out (by simp only [Rc.con, Prod.mk.injEq, List.cons.injEq] at h; simp only [h]))), H2.weaken le⟩
  have u4 : (mark == mark') = true := by simpa using q
  have Q4 := Hid.mk' q
  clear q
  by_cases q : size = size'
  case neg =>
    have u : (size == size') = false := by simpa using q
    have Q := Hid.mk' q
    clear q
    go_enter Try.func80, Try.ntmps80
    go_wp2_with fail
    go_ret
    exact ⟨ret_bool (NO.out (fun h => Q.out (by simp only [Rc.con, Prod.mk.injEq, List.cons.injEq] at h; simp only [h]))), H2.weaken le⟩
  have u5 : (size == size') = true := by simpa using q
  have Q5 := Hid.mk' q
  clear q
  go_enter Try.func80, Try.ntmps80
  go_wp2_with fail
  refine (same_spec (Rd.world HS.out H2) (Rd.world HS'.out H2) Z2.out Z4.out).mono ?_
  rintro e w8 ⟨rfl, q, rfl⟩
  have H3 := H2.drewN q
  go_wp2_with fail
  go_ret
  refine ⟨ret_bool ?_, (H3).weaken le⟩
  rw [HY.out, rcSame]
  congr 1
  simp only [Rc.con, Q0.out, Q1.out, Q2.out, Q3.out, Q4.out, Q5.out, Prod.mk.injEq, true_and]
end Sh
