/- RecRPut RecGet: joined texts, each with its own sentence below. -/
import Derived.Test.YtmogagcffebbaaaJd11
import Derived.Test.YtmogagcffebbaaaJd12
import Derived.Test.YtmogagcffebbaaaJd9
import Derived.Deep.RegionHeld3
/- sherdref20.Put. -/
set_option linter.unusedVariables false
set_option linter.unusedSimpArgs false
namespace Sh
open Go Go.RowKit Go.Proofs
attribute [local go_sem ↓] Go.wp_at_zero Go.wp_at_succ
set_option maxHeartbeats 1000000
set_option maxRecDepth 100000

def rowsR (o : Value) (q : List (Value × List UInt8)) (L : Asrt) : Asrt := star (row tBytes 1 o q.length (q.map Prod.fst)) (star (bytesAll q) L)
def putN (r : Rc) (n : Nat) : List (List UInt8) := sealS (headR r) :: (List.range n).map fun i => sealS (bodyR r i)
set_option maxHeartbeats 8000000
theorem rrecPut_ok {w : World} {R : Snap} {L : Asrt} (r : Rc) (H : Holds w R L) (hr : r.Rd R.cell?) (hz : r.Sz) (hok : rcOk r = true) :
    Calls Try.prog 83 #[.agg r.cells.toArray] w fun e w' => ∃ o q, e = .returned o ∧ q.map Prod.snd = putR r ∧ Holds w' R (rowsR o q L) := by
  obtain ⟨k1, f1, f2, f3, f4, f5, f6⟩ := rcOk_bounds hok
  have HOK := Hid.mk' hok
  obtain ⟨kind, name, attempt, epoch, mark, size, vs, share⟩ := r
  obtain ⟨z1, z2⟩ := hz
  have hs := hr
  simp only [Rc.Rd] at z1 z2 hs
  obtain ⟨as_, cs_, rfl⟩ := hs.form
  simp only at k1 f1 f2 f3 f4 f5 f6
  have K1 := Hid.mk' k1
  have hnl := nameB_len k1
  obtain ⟨N, hN⟩ : ∃ N, N = share.length := ⟨_, rfl⟩
  have HSB : Hid (RdB R.cell? (.slice as_ N cs_) share) := Hid.mk' (by rw [hN]; exact hs)
  have HN := Hid.mk' hN
  have hcs := (Rd.bounds hs).1
  have hcx := (Rd.bounds hs).2.1
  obtain ⟨HD, hHD⟩ : ∃ HD, HD = sealS (headR (⟨kind, name, attempt, epoch, mark, size, .slice as_ share.length cs_, share⟩ : Rc)) := ⟨_, rfl⟩
  have HHD := Hid.mk' hHD
  obtain ⟨PT, hPT⟩ : ∃ PT : Nat → List (List UInt8), PT = putN (⟨kind, name, attempt, epoch, mark, size, .slice as_ share.length cs_, share⟩ : Rc) := ⟨_, rfl⟩
  have HPT := Hid.mk' hPT
  have HPR : Hid (putR (⟨kind, name, attempt, epoch, mark, size, .slice as_ share.length cs_, share⟩ : Rc) = PT (bodiesN N)) := Hid.mk' (by rw [hPT, putN, putR, hN])
  rw [HPR.out]
  have HBD : Hid (∀ j, nb 1 66 ++ nb 1 (j : Nat) ++ nb 1 kind ++ nb 4 attempt ++ nb 4 epoch ++ tx (pieceL (⟨kind, name, attempt, epoch, mark, size, .slice as_ share.length cs_, share⟩ : Rc) j) = bodyR (⟨kind, name, attempt, epoch, mark, size, .slice as_ share.length cs_, share⟩ : Rc) j) := Hid.mk' (fun j => by simp only [bodyR, List.append_assoc])
  have HHR : Hid (∀ x, x = nb 1 72 ++ nb 1 kind ++ nameB name ++ nb 4 attempt ++ nb 4 epoch ++ nb 4 mark ++ nb 2 size ++ nb 1 (N : Int) → sealS x = HD) := Hid.mk' (fun x hx => by rw [hx, hHD, hN]; simp only [headR, List.append_assoc])
  have HPC : Hid (∀ j, pieceL (⟨kind, name, attempt, epoch, mark, size, .slice as_ share.length cs_, share⟩ : Rc) j = (share.drop (j * 48)).take 48) := Hid.mk' (fun _ => rfl)
  have hcl : ((⟨kind, name, attempt, epoch, mark, size, .slice as_ share.length cs_, share⟩ : Rc)).cells = [.int .i64 kind, .string name, .int .i64 attempt, .int .i64 epoch, .int .i64 mark, .int .i64 size, .slice as_ share.length cs_] := rfl
  rw [hcl]
  rw [← hN] at f5 hcs ⊢
  clear hok k1 hs hN hHD hPT z1 z2 hcl HOK
  obtain ⟨R1, le1, H1, hb⟩ := H.allocR (.cells #[.int .i64 kind, .string name, .int .i64 attempt, .int .i64 epoch, .int .i64 mark, .int .i64 size, .slice as_ N cs_] tRec (0, 0))
  clear H
  show Calls _ _ #[.agg #[.int .i64 kind, .string name, .int .i64 attempt, .int .i64 epoch, .int .i64 mark, .int .i64 size, .slice as_ N cs_]] _ _
  go_enter Try.func83, Try.ntmps83
  go_upto_region 1 with fail
  generalize (World.alloc ..) = w1 at H1 ⊢
  generalize w.heap.size = g at hb ⊢
  obtain ⟨l1, n1, c1⟩ := Holds.frzFacts (H1) hb
  have hkw : IntKind.u8.wrap kind = kind := by simp [IntKind.wrap, IntKind.signed, IntKind.bits]; omega
  have hk8 : ((UInt8.ofNat kind.toNat).toNat : Int) = kind := by
    rw [UInt8.toNat_ofNat']; omega
  have eT : [72, UInt8.ofNat kind.toNat] = nb 1 72 ++ nb 1 kind := by rw [nb_byte (by omega), nb_byte (by omega)]; rfl
  have hB2 : ∀ (w : World) (R : Snap) (L : Asrt) (b : Nat), Holds w R (star (blk b #[.int .u8 72, .int .u8 kind] tU8) L) → Holds w R (star (rowB (.slice (some ⟨b, 0, none⟩) 2 2) (nb 1 72 ++ nb 1 kind)) L) := fun _ _ _ _ H => by
    rw [← eT]
    refine blkB (n := 2) H _ ?_ rfl (by simp)
    show [Value.int .u8 72, Value.int .u8 kind] = [Value.int .u8 ((72 : UInt8).toNat : Int), Value.int .u8 ((UInt8.ofNat kind.toNat).toNat : Int)]
    rw [hk8]; rfl
  have HB2 := Hid.mk' hB2
  clear hB2 hk8 eT
  go_cut [3] (fun c wx => ∃ T0, T0 = nb 1 72 ++ nb 1 kind ++ nameB name ∧ Holds wx R1 (star (rowB c T0) L))
  case first =>
    have hln2 : (nb 1 72 ++ nb 1 kind).length + (nameB name).length ≤ 100000000 := by rw [hnl, List.length_append, nb_length, nb_length, wid_1]; decide
    have Ha := HB2.out _ _ _ _ (H1.drew.alloc #[.int .u8 72, .int .u8 kind] tU8)
    go_region_held3 (fun w' => (∀ o, w'.cell? ⟨g, o, none⟩ = #[.int .i64 kind, .string name, .int .i64 attempt, .int .i64 epoch, .int .i64 mark, .int .i64 size, .slice as_ N cs_][o]?)) (first | (exact H24.frz hb) | (exact H22.frz hb) | (exact H21.frz hb) | ((repeat' (first | assumption | (with_reducible refine And.intro ?_ ?_) | (with_reducible refine keep_drew ?_) | (with_reducible refine keep_drewN ?_) | (with_reducible refine keep_alloc ?_ (by first | assumption | (simp only [World.size_alloc, World.size_drew, World.size_setCell]; omega))) | (with_reducible refine keep_set ?_ (by first | assumption | omega)))))) (first | (go_at_call 160; first | (refine (lrput_spec Ha K1.out).mono ?_; rintro e w21 ⟨o21, rfl, H21⟩; have hr21 := H21.rowRd; have H22 := H21.swap) | (refine (lrput_spec H1.drew K1.out).mono ?_; rintro e w21 ⟨o21, rfl, H21⟩; have H22 := HB2.out _ _ _ _ (H21.alloc #[.int .u8 72, .int .u8 kind] tU8); have hr21 := H22.swap.rowRd)) | (refine step_appendB rfl _ _ (by rfl) (by rfl) (by rfl) H22 hr21 hln2 ?_; intro v24 w24 H24))
    all_goals
      go_wp2_with fail
      go_meet
      case rel => exact ⟨_, rfl, H24.drop2⟩
  clear H1 l1 n1 c1 hkw
  obtain ⟨T0, hT, H3⟩ := hcut
  have hlT0 : T0.length ≤ 19 := by rw [hT, List.length_append, List.length_append, hnl, nb_length, nb_length, wid_1]; omega
  have HT0 := Hid.mk' hT
  clear hT hnl
  rename_i w3

  obtain ⟨l1, n1, c1⟩ := Holds.frzFacts (H3) hb
  go_wp2_with fail
  refine (refnum_spec (k := 4) (n := attempt) H3 (by omega)).mono ?_
  rintro e w4 ⟨o4, rfl, H4⟩
  obtain ⟨ao, co, rfl⟩ := H4.rowRd.form
  have hrd : RdB w4.cell? (.slice ao (nb 4 attempt).length co) (nb 4 attempt) := H4.rowRd
  have hlk : (nb 4 attempt).length ≤ 4 := by rw [nb_length]; simp only [wid_1, wid_2, wid_4]; omega
  have H6 : Holds w4 R1 (star (rowB _ T0) (star (rowB _ (nb 4 attempt)) L)) := H4.swap
  clear H3 l1 n1 c1
  go_wp2_with (with_reducible refine stop_append ?_)
  refine Hold.go (wpList_appendB (l := T0) (k := nb 4 attempt) rfl _ _ rfl rfl rfl H6 hrd (by have h9 := hlk; omega) ?_)
  intro v5 w5 H5
  obtain ⟨T1, hT⟩ : ∃ T, T = T0 ++ nb 4 attempt := ⟨_, rfl⟩
  have hlT1 : T1.length ≤ 23 := by rw [hT, List.length_append]; omega
  rw [← hT] at H5
  have HT1 := Hid.mk' hT
  have H3 := H5.drop2
  clear hT hrd hlk H4 H6 H5 hlT0
  go_upto_region 3 with fail
  obtain ⟨l1, n1, c1⟩ := Holds.frzFacts (H3) hb
  go_wp2_with fail
  refine (refnum_spec (k := 4) (n := epoch) H3 (by omega)).mono ?_
  rintro e w4 ⟨o4, rfl, H4⟩
  obtain ⟨ao, co, rfl⟩ := H4.rowRd.form
  have hrd : RdB w4.cell? (.slice ao (nb 4 epoch).length co) (nb 4 epoch) := H4.rowRd
  have hlk : (nb 4 epoch).length ≤ 4 := by rw [nb_length]; simp only [wid_1, wid_2, wid_4]; omega
  have H6 : Holds w4 R1 (star (rowB _ T1) (star (rowB _ (nb 4 epoch)) L)) := H4.swap
  clear H3 l1 n1 c1
  go_wp2_with (with_reducible refine stop_append ?_)
  refine Hold.go (wpList_appendB (l := T1) (k := nb 4 epoch) rfl _ _ rfl rfl rfl H6 hrd (by have h9 := hlk; omega) ?_)
  intro v5 w5 H5
  obtain ⟨T2, hT⟩ : ∃ T, T = T1 ++ nb 4 epoch := ⟨_, rfl⟩
  have hlT2 : T2.length ≤ 27 := by rw [hT, List.length_append]; omega
  rw [← hT] at H5
  have HT2 := Hid.mk' hT
  have H3 := H5.drop2
  clear hT hrd hlk H4 H6 H5 hlT1
  go_upto_region 4 with fail
  obtain ⟨l1, n1, c1⟩ := Holds.frzFacts (H3) hb
  go_wp2_with fail
  refine (refnum_spec (k := 4) (n := mark) H3 (by omega)).mono ?_
  rintro e w4 ⟨o4, rfl, H4⟩
  obtain ⟨ao, co, rfl⟩ := H4.rowRd.form
  have hrd : RdB w4.cell? (.slice ao (nb 4 mark).length co) (nb 4 mark) := H4.rowRd
  have hlk : (nb 4 mark).length ≤ 4 := by rw [nb_length]; simp only [wid_1, wid_2, wid_4]; omega
  have H6 : Holds w4 R1 (star (rowB _ T2) (star (rowB _ (nb 4 mark)) L)) := H4.swap
  clear H3 l1 n1 c1
  go_wp2_with (with_reducible refine stop_append ?_)
  refine Hold.go (wpList_appendB (l := T2) (k := nb 4 mark) rfl _ _ rfl rfl rfl H6 hrd (by have h9 := hlk; omega) ?_)
  intro v5 w5 H5
  obtain ⟨T3, hT⟩ : ∃ T, T = T2 ++ nb 4 mark := ⟨_, rfl⟩
  have hlT3 : T3.length ≤ 31 := by rw [hT, List.length_append]; omega
  rw [← hT] at H5
  have HT3 := Hid.mk' hT
  have H3 := H5.drop2
  clear hT hrd hlk H4 H6 H5 hlT2
  go_upto_region 5 with fail
  obtain ⟨l1, n1, c1⟩ := Holds.frzFacts (H3) hb
  go_wp2_with fail
  refine (refnum_spec (k := 2) (n := size) H3 (by omega)).mono ?_
  rintro e w4 ⟨o4, rfl, H4⟩
  obtain ⟨ao, co, rfl⟩ := H4.rowRd.form
  have hrd : RdB w4.cell? (.slice ao (nb 2 size).length co) (nb 2 size) := H4.rowRd
  have hlk : (nb 2 size).length ≤ 4 := by rw [nb_length]; simp only [wid_1, wid_2, wid_4]; omega
  have H6 : Holds w4 R1 (star (rowB _ T3) (star (rowB _ (nb 2 size)) L)) := H4.swap
  clear H3 l1 n1 c1
  go_wp2_with (with_reducible refine stop_append ?_)
  refine Hold.go (wpList_appendB (l := T3) (k := nb 2 size) rfl _ _ rfl rfl rfl H6 hrd (by have h9 := hlk; omega) ?_)
  intro v5 w5 H5
  obtain ⟨T4, hT⟩ : ∃ T, T = T3 ++ nb 2 size := ⟨_, rfl⟩
  have hlT4 : T4.length ≤ 35 := by rw [hT, List.length_append]; omega
  rw [← hT] at H5
  have HT4 := Hid.mk' hT
  have H3 := H5.drop2
  clear hT hrd hlk H4 H6 H5 hlT3
  go_upto_region 6 with fail
  obtain ⟨l1, n1, c1⟩ := Holds.frzFacts (H3) hb
  go_wp2_with (with_reducible refine stop_append ?_)
  have hk8 : ((UInt8.ofNat (N : Int).toNat).toNat : Int) = (N : Int) := by
    rw [UInt8.toNat_ofNat']; omega
  have H4 := H3.alloc #[.int .u8 (N : Int)] tU8
  have H5 := blkB (n := 1) H4 [UInt8.ofNat (N : Int).toNat] (by
    show [Value.int .u8 (N : Int)] = [Value.int .u8 ((UInt8.ofNat (N : Int).toNat).toNat : Int)]
    rw [hk8]) rfl (by simp)
  rw [← nb_byte (by omega)] at H5
  have hrd := H5.rowRd
  refine Hold.go (wpList_appendB (l := T4) (k := nb 1 (N : Int)) rfl _ _ rfl rfl rfl H5.swap hrd (by rw [nb_length, wid_1]; omega) ?_)
  intro v6 w6 H6
  obtain ⟨T5, hT⟩ : ∃ T, T = T4 ++ nb 1 (N : Int) := ⟨_, rfl⟩
  have hlT5 : T5.length ≤ 60 := by rw [hT, List.length_append, nb_length, wid_1]; omega
  rw [← hT] at H6
  have HS5 : Hid (sealS T5 = HD) := Hid.mk' (HHR.out T5 (by rw [hT, HT4.out, HT3.out, HT2.out, HT1.out, HT0.out]))
  obtain ⟨R2, le2, H7, hr7⟩ := H6.drop2.freezeRow
  replace hb := le2.blk _ _ hb
  have leA := le1.trans le2
  clear hT hrd H3 H4 H5 H6 hk8 hlT4 l1 n1 c1 HT0 HT1 HT2 HT3 HT4
  go_upto_region 7 with fail
  go_wp2_with fail
  refine (rsseal_spec H7 hr7 hlT5).mono ?_
  rintro e w8 ⟨o8, rfl, H8⟩
  rw [HS5.out] at H8
  obtain ⟨a8, c8, rfl⟩ := H8.rowRd.form
  have H9 : Holds _ R2 (star (row tBytes 1 (.slice (some ⟨w8.heap.size, 0, none⟩) 1 1) 1 [.slice a8 HD.length c8]) (star (rowB (.slice a8 HD.length c8) HD) L)) := (H8.alloc #[.slice a8 HD.length c8] tBytes).toRow 1 1 1 (Nat.le_refl _) (by decide) rfl
  clear H7 H8 hr7 hlT5 HS5
  go_upto_region 8 with fail
  generalize (World.alloc ..) = w9 at H9 ⊢
  generalize w8.heap.size = g8 at H9 ⊢
  have HPT0 : Hid (PT 0 = [HD]) := Hid.mk' (by rw [HPT.out, putN, HHD.out]; rfl)
  have HPTS : Hid (∀ j, PT (j + 1) = PT j ++ [sealS (bodyR (⟨kind, name, attempt, epoch, mark, size, .slice as_ share.length cs_, share⟩ : Rc) j)]) := Hid.mk' (fun j => by rw [HPT.out, putN, putN, List.range_succ, List.map_append]; rfl)
  go_wp2_with fail
  go_loopw [4, 5] (fun s4 i wx => ∃ (j a : Nat) (R3 : Snap) (o : Value) (q : List (Value × List UInt8)), i = .int .i64 (a : Int) ∧ a = 48 * j ∧ j ≤ bodiesN N ∧ s4 = o ∧ q.map Prod.snd = PT j ∧ q.length = 1 + j ∧ R2.le R3 ∧ Holds wx R3 (rowsR o q L)) (fun _ i _ => 1000 - (intOf i).toNat)
  case atStart => exact ⟨0, 0, R2, _, [(.slice a8 HD.length c8, HD)], rfl, rfl, Nat.zero_le _, rfl, by rw [HPT0.out]; rfl, rfl, Snap.le.refl _, by
    unfold rowsR
    rw [bytesAll_one]
    exact H9⟩
  case round =>
    clear H9
    obtain ⟨j, a, R3, o, q, rfl, ha, hj, rfl, hq, hql, le3, H10⟩ := hrel
    have hb3 := le3.blk _ _ hb
    obtain ⟨l1, n1, c1⟩ := Holds.frzFacts (H10) hb3
    by_cases hlt : a < N
    · have d1 : decide ((a : Int) < (N : Int)) = true := by simp; omega
      have hjb : j + 1 ≤ bodiesN N := by unfold bodiesN; omega
      have hj5 : j ≤ 4 := by omega
      obtain ⟨e, he⟩ : ∃ e, e = min (a + 48) N := ⟨_, rfl⟩
      have HQ := Hid.mk' hq
      have HA := Hid.mk' ha
      have HE := Hid.mk' he
      have HJB := Hid.mk' hjb
      clear hq ha hjb hj he
      go_upto_region 11 with fail
      go_cut [6] from 46 to 97 (fun c wx => c = .int .i64 ((a : Int) + 48) ∧ wx = wr)
      case first =>
        go_wp2_with fail
        go_meet
        case rel => exact ⟨rfl, rfl⟩
      obtain ⟨rfl, rfl⟩ := hcut
      rename_i K9 hK9
      refine hK9 _ _ ?_
      clear hK9 K9
      refine wp_seq_k (fun K9 hK9 => ?_)
      go_cut [6] from 46 to 97 (fun c wx => c = .int .i64 (e : Int) ∧ wx = wc)
      case first =>
        by_cases h48 : N < a + 48
        · have t1 : decide ((N : Int) < (a : Int) + 48) = true := decide_eq_true (by omega)
          have he2 : N = e := by rw [HE.out]; exact (Nat.min_eq_right (by omega)).symm
          have t1n : decide (N < a + 48) = true := decide_eq_true h48
          have HE2 := Hid.mk' he2
          clear h48 he2
          go_wp2_with fail
          go_meet
          case rel => exact ⟨by rw [HE2.out], rfl⟩
        · have t1 : decide ((N : Int) < (a : Int) + 48) = false := decide_eq_false (by omega)
          have he2 : e = a + 48 := by rw [HE.out]; exact Nat.min_eq_left (by omega)
          have t1n : decide (N < a + 48) = false := decide_eq_false h48
          have HE2 := Hid.mk' he2
          clear h48 he2
          go_wp2_with fail
          go_meet
          case rel => exact ⟨by rw [HE2.out]; go_num, rfl⟩
      obtain ⟨rfl, rfl⟩ := hcut
      refine hK9 _ _ ?_
      clear hK9 K9
      refine wp_seq_k (fun K9 hK9 => ?_)
      have ha := HA.out
      have hat : attempt ≤ 9223372036854775807 := by omega
      have hB3 : ∀ (w : World) (R : Snap) (L : Asrt) (b : Nat), Holds w R (star (blk b #[.int .u8 66, .int .u8 (j : Int), .int .u8 kind] tU8) L) → Holds w R (star (rowB (.slice (some ⟨b, 0, none⟩) 3 3) (nb 1 66 ++ nb 1 (j : Nat) ++ nb 1 kind)) L) := fun _ _ _ _ H => by
        have hk8 : ((UInt8.ofNat kind.toNat).toNat : Int) = kind := by
          rw [UInt8.toNat_ofNat']; omega
        have hj8 : ((UInt8.ofNat (j : Int).toNat).toNat : Int) = (j : Int) := by
          rw [UInt8.toNat_ofNat']; omega
        have eT : [66, UInt8.ofNat (j : Int).toNat, UInt8.ofNat kind.toNat] = nb 1 66 ++ nb 1 (j : Nat) ++ nb 1 kind := by rw [nb_byte (by omega), nb_byte (by omega), nb_byte (by omega)]; rfl
        rw [← eT]
        refine blkB (n := 3) H _ ?_ rfl (by simp)
        show [Value.int .u8 66, Value.int .u8 (j : Int), Value.int .u8 kind] = [Value.int .u8 ((66 : UInt8).toNat : Int), Value.int .u8 ((UInt8.ofNat (j : Int).toNat).toNat : Int), Value.int .u8 ((UInt8.ofNat kind.toNat).toNat : Int)]
        rw [hk8, hj8]; rfl
      have HB3 := Hid.mk' hB3
      clear hB3 ha
      obtain ⟨LL, hLL⟩ : ∃ A, A = rowsR u4 q L := ⟨_, rfl⟩
      rw [← hLL] at H10
      have HLL := Hid.mk' hLL
      clear hLL
      have h4 : (nb 4 attempt).length = 4 := by rw [nb_length, wid_4]
      have hq1 : ((a : Nat) : Int).tdiv 48 = (j : Int) := by have ha := HA.out; rw [Int.tdiv_eq_ediv_of_nonneg (by omega)]; omega
      have hq2 : IntKind.i64.wrap (j : Int) = (j : Int) := IntWalk.i64_in _ (by omega)
      have hq3 : IntKind.u8.wrap (j : Int) = (j : Int) := by simp [IntKind.wrap, IntKind.signed, IntKind.bits]; omega
      have hkw : IntKind.u8.wrap kind = kind := by simp [IntKind.wrap, IntKind.signed, IntKind.bits]; omega
      go_cut [7] from 46 to 97 (fun c wx => ∃ U0, U0 = nb 1 66 ++ nb 1 (j : Nat) ++ nb 1 kind ++ nb 4 attempt ∧ Holds wx R3 (star (rowB c U0) LL))
      case first =>
        have hln2 : (nb 1 66 ++ nb 1 (j : Nat) ++ nb 1 kind).length + (nb 4 attempt).length ≤ 100000000 := by rw [h4, List.length_append, List.length_append, nb_length, nb_length, nb_length, wid_1]; decide
        clear f1 f2 f3 f4 f5 f6 hcs hcx hlt d1 hj5 hql h4 HE HA HJB HQ HLL HPT HPTS HPT0 HBD HHR HPC HHD HN HSB K1 HPR
        have Ha := HB3.out _ _ _ _ (H10.drew.alloc #[.int .u8 66, .int .u8 (j : Int), .int .u8 kind] tU8)
        go_region_held3 (fun w' => (∀ o, w'.cell? ⟨g, o, none⟩ = #[.int .i64 kind, .string name, .int .i64 attempt, .int .i64 epoch, .int .i64 mark, .int .i64 size, .slice as_ N cs_][o]?)) (first | assumption | (exact H24.frz hb3) | (exact H22.frz hb3) | (exact H21.frz hb3) | (exact Ha.frz hb3) | (exact H10.drew.frz hb3) | ((repeat' (first | assumption | (with_reducible refine And.intro ?_ ?_) | (with_reducible refine keep_drew ?_) | (with_reducible refine keep_drewN ?_) | (with_reducible refine keep_alloc ?_ (by first | assumption | (simp only [World.size_alloc, World.size_drew, World.size_setCell]; omega))) | (with_reducible refine keep_set ?_ (by first | assumption | omega)))))) (first | (go_at_call 133; first | (refine (refnum_spec (k := 4) (n := attempt) Ha hat).mono ?_; rintro e w21 ⟨o21, rfl, H21⟩; have hr21 := H21.rowRd; have H22 := H21.swap) | (refine (refnum_spec (k := 4) (n := attempt) H10.drew hat).mono ?_; rintro e w21 ⟨o21, rfl, H21⟩; have H22 := HB3.out _ _ _ _ (H21.alloc #[.int .u8 66, .int .u8 (j : Int), .int .u8 kind] tU8); have hr21 := H22.swap.rowRd)) | (refine step_appendB rfl _ _ (by rfl) (by rfl) (by rfl) H22 hr21 hln2 ?_; intro v24 w24 H24))
        all_goals
          go_wp2_with fail
          go_meet
          case rel => exact ⟨_, rfl, H24.drop2⟩
      clear H10 l1 n1 c1 hkw hq1 hq2 hq3 hat
      obtain ⟨U0, hT, H3⟩ := hcut
      have hlU0 : U0.length ≤ 7 := by rw [hT, List.length_append, List.length_append, List.length_append, h4, nb_length, nb_length, nb_length, wid_1]; omega
      have HU0 := Hid.mk' hT
      clear hT h4
      refine hK9 _ _ ?_
      clear hK9 K9

      obtain ⟨l1, n1, c1⟩ := Holds.frzFacts (H3) hb3
      go_wp2_with fail
      refine (refnum_spec (k := 4) (n := epoch) H3 (by omega)).mono ?_
      rintro e w4 ⟨o4, rfl, H4⟩
      obtain ⟨ao, co, rfl⟩ := H4.rowRd.form
      have hrd : RdB w4.cell? (.slice ao (nb 4 epoch).length co) (nb 4 epoch) := H4.rowRd
      have hlk : (nb 4 epoch).length ≤ 4 := by rw [nb_length]; simp only [wid_1, wid_2, wid_4]; omega
      have H6 : Holds w4 R3 (star (rowB _ U0) (star (rowB _ (nb 4 epoch)) LL)) := H4.swap
      clear H3 l1 n1 c1
      go_wp2_with (with_reducible refine stop_append ?_)
      refine Hold.go (wpList_appendB (l := U0) (k := nb 4 epoch) rfl _ _ rfl rfl rfl H6 hrd (by have h9 := hlk; omega) ?_)
      intro v5 w5 H5
      obtain ⟨U1, hT⟩ : ∃ T, T = U0 ++ nb 4 epoch := ⟨_, rfl⟩
      have hlU1 : U1.length ≤ 11 := by rw [hT, List.length_append]; omega
      rw [← hT] at H5
      have HU1 := Hid.mk' hT
      have H3 := H5.drop2
      clear hT hrd hlk H4 H6 H5 hlU0
      go_upto_region 16 with fail
      have he1 : a < e ∧ e ≤ N ∧ e ≤ a + 48 := by have := HE.out; omega
      obtain ⟨d, hd⟩ : ∃ d, d = e - a := ⟨_, rfl⟩
      have hd1 : (e : Int) - (a : Int) = (d : Int) := by omega
      have hd48 : d ≤ 48 := by omega
      have hdw : IntKind.u8.wrap (d : Int) = (d : Int) := by simp [IntKind.wrap, IntKind.signed, IntKind.bits]; omega
      have hdw2 : IntKind.i64.wrap (d : Int) = (d : Int) := IntWalk.i64_in _ (by omega)
      have HDD := Hid.mk' hd
      have HE1 := Hid.mk' he1
      clear hd he1
      go_wp2_with (with_reducible refine stop_append ?_)
      have hk8 : ((UInt8.ofNat (d : Int).toNat).toNat : Int) = (d : Int) := by
        rw [UInt8.toNat_ofNat']; omega
      have H4 := H3.alloc #[.int .u8 (d : Int)] tU8
      have H5 := blkB (n := 1) H4 [UInt8.ofNat (d : Int).toNat] (by
        show [Value.int .u8 (d : Int)] = [Value.int .u8 ((UInt8.ofNat (d : Int).toNat).toNat : Int)]
        rw [hk8]) rfl (by simp)
      rw [← nb_byte (by omega)] at H5
      have hrd := H5.rowRd
      refine Hold.go (wpList_appendB (l := U1) (k := nb 1 (d : Int)) rfl _ _ rfl rfl rfl H5.swap hrd (by rw [nb_length, wid_1]; omega) ?_)
      intro v6 w6 H6
      obtain ⟨U2, hT⟩ : ∃ T, T = U1 ++ nb 1 (d : Int) := ⟨_, rfl⟩
      have hlU2 : U2.length ≤ 12 := by rw [hT, List.length_append, nb_length, wid_1]; omega
      rw [← hT] at H6
      have HU2 := Hid.mk' hT
      have H7 := H6.drop2
      clear hT hrd H3 H4 H5 H6 hk8 hlU1 hd1 hdw hdw2
      go_upto_region 17 with fail
      obtain ⟨l1, n1, c1⟩ := Holds.frzFacts (H7) hb3
      have he1 := HE1.out
      have hpr : RdB R3.cell? (.slice (adr as_ cs_ a 1) (e - a) (cs_ - a)) (pieceL (⟨kind, name, attempt, epoch, mark, size, .slice as_ share.length cs_, share⟩ : Rc) j) := by
        have h1 : RdB R.cell? (.slice as_ share.length cs_) share := by rw [← HN.out]; exact HSB.out
        have h2 := RdB.sub h1 a e cs_ (by omega) (by rw [← HN.out]; omega) (by omega) (Nat.le_refl _)
        have h4 : (share.drop a).take (e - a) = pieceL (⟨kind, name, attempt, epoch, mark, size, .slice as_ share.length cs_, share⟩ : Rc) j := by
          rw [HPC.out, HA.out, Nat.mul_comm 48 j]
          have ha := HA.out
          have he := HE.out
          by_cases h : a + 48 ≤ N
          · congr 1; omega
          · rw [List.take_of_length_le (by rw [List.length_drop, ← HN.out]; omega), List.take_of_length_le (by rw [List.length_drop, ← HN.out]; omega)]
        rw [h4] at h2
        exact Rd.le h2 (leA.trans le3)
      have hpl : (pieceL (⟨kind, name, attempt, epoch, mark, size, .slice as_ share.length cs_, share⟩ : Rc) j).length = d := by
        rw [HPC.out, List.length_take, List.length_drop, ← HN.out, HDD.out]
        have ha := HA.out
        have he := HE.out
        omega
      have i1 : (0 : Int) ≤ (a : Int) := by omega
      have i2 : (a : Int) ≤ (e : Int) := by omega
      have i3 : (e : Int) ≤ (cs_ : Int) := by omega
      have HPR2 := Hid.mk' hpr
      have HPL := Hid.mk' hpl
      clear hpr hpl he1
      go_wp2_with (with_reducible refine stop_append ?_)
      refine Hold.go (wpList_appendB (l := U2) (k := pieceL (⟨kind, name, attempt, epoch, mark, size, .slice as_ share.length cs_, share⟩ : Rc) j) rfl _ _ rfl rfl rfl H7 (Rd.world HPR2.out H7) (by rw [HPL.out]; omega) ?_)
      intro v8 w8 H8
      obtain ⟨U3, hT⟩ : ∃ T, T = U2 ++ pieceL (⟨kind, name, attempt, epoch, mark, size, .slice as_ share.length cs_, share⟩ : Rc) j := ⟨_, rfl⟩
      have hlU3 : U3.length ≤ 60 := by rw [hT, List.length_append, HPL.out]; omega
      rw [← hT] at H8
      have HU3 : Hid (U3 = bodyR (⟨kind, name, attempt, epoch, mark, size, .slice as_ share.length cs_, share⟩ : Rc) j) := Hid.mk' (by
        rw [hT, HU2.out, HU1.out, HU0.out, ← HBD.out, tx, HPL.out, List.take_of_length_le (by rw [HPL.out]; omega), Nat.min_eq_left (by omega)]
        simp only [List.append_assoc])
      obtain ⟨R4, le4, H9, hr9⟩ := H8.freezeRow
      clear hT H7 H8 l1 n1 c1 hlU2 i1 i2 i3
      go_upto_region 18 with fail
      go_wp2_with fail
      refine (rsseal_spec H9 hr9 hlU3).mono ?_
      rintro e10 w10 ⟨o10, rfl, H10⟩
      rw [HU3.out, HLL.out] at H10
      obtain ⟨a10, c10, rfl⟩ := H10.rowRd.form
      obtain ⟨SB, hSB⟩ : ∃ S, S = sealS (bodyR (⟨kind, name, attempt, epoch, mark, size, .slice as_ share.length cs_, share⟩ : Rc) j) := ⟨_, rfl⟩
      rw [← hSB] at H10 ⊢
      have HSB2 := Hid.mk' hSB
      clear hSB H9 hr9 hlU3
      go_wp2_with (with_reducible refine stop_append ?_)
      have H11 := H10.alloc #[.slice a10 SB.length c10] tBytes
      have hr11 : Rd _ 1 _ 1 _ := (H11.toRow 1 1 1 (Nat.le_refl _) (by simp [maxLen]) rfl).rowRd
      unfold rowsR at H11
      have H12 := H11.drop.swap
      have hq10 : q.length ≤ 10 := by omega
      refine Hold.go (wpList_append rfl _ _ rfl undSecs infoBytes rfl (by decide) rfl rfl H12 hr11 (by simp [Value.oneCell']) (by simp only [maxLen]; omega) (by omega) ?_)
      intro v13 w13 H13
      clear H10 H11 H12 hr11
      go_wp2_with fail
      go_roundw
      case rel =>
        refine ⟨j + 1, a + 48, R4, v13, q ++ [(.slice a10 SB.length c10, SB)], by go_num, by have := HA.out; omega, HJB.out, rfl, ?_, ?_, le3.trans le4, ?_⟩
        · rw [List.map_append, HQ.out, HPTS.out, HSB2.out]; rfl
        · rw [List.length_append, hql]; simp; omega
        · unfold rowsR
          simp only [List.map_append, List.length_append, List.length_singleton, List.map_cons, List.map_nil, bytesAll_append, bytesAll_one]
          exact H13.ac (by ac_rfl)
      case measure => simp [intOf]; omega
    · have d1 : decide ((a : Int) < (N : Int)) = false := by simp; omega
      have hjj : j = bodiesN N := by unfold bodiesN at hj ⊢; omega
      have HJJ := Hid.mk' hjj
      have HQ := Hid.mk' hq
      clear hq hjj hj ha hql
      go_wp2_with fail
      go_ret
      exact ⟨_, q, rfl, by rw [HQ.out, HJJ.out], H10.weaken (leA.trans le3)⟩
end Sh
/- record.Get. -/
set_option linter.unusedVariables false
set_option linter.unusedSimpArgs false
namespace Sh
open Go Go.RowKit Go.Proofs
attribute [local go_sem ↓] Go.wp_at_zero Go.wp_at_succ
set_option maxHeartbeats 1000000
set_option maxRecDepth 100000

theorem recPut_bad {w : World} {R : Snap} {L : Asrt} {pt : Option Addr} (r : Rc) (H : Holds w R L) (hr : r.Rd R.cell?) (hz : r.Sz) (hok : rcOk r = false) :
    Calls Try.prog 74 #[.pointer pt, .agg r.cells.toArray] w fun e w' => e = .returned (.tuple #[.slice none 0 0, .int .i64 3]) ∧ Holds w' R L := by
  have HOK := Hid.mk' hok
  have HR := Hid.mk' hr
  have HZ := Hid.mk' hz
  obtain ⟨kind, name, attempt, epoch, mark, size, vs, share⟩ := r
  obtain ⟨z1, z2⟩ := hz
  have hs := hr
  simp only [Rc.Rd] at z1 z2 hs
  obtain ⟨as_, cs_, rfl⟩ := hs.form
  obtain ⟨R1, le1, H1, hb1⟩ := H.allocR (.cells #[.pointer pt] 79 (0, 0))
  obtain ⟨R2, le2, H2, hb2⟩ := H1.allocR (.cells #[.int .i64 kind, .string name, .int .i64 attempt, .int .i64 epoch, .int .i64 mark, .int .i64 size, .slice as_ share.length cs_] tRec (0, 0))
  have leA := le1.trans le2
  simp only [World.size_alloc] at hb2
  clear H H1 hok le1 le2 hs hr hb1
  show Calls _ _ #[_, .agg #[.int .i64 kind, .string name, .int .i64 attempt, .int .i64 epoch, .int .i64 mark, .int .i64 size, .slice as_ share.length cs_]] _ _
  go_enter Try.func74, Try.ntmps74
  go_upto_region 1 with fail
  generalize (World.alloc ..) = w2 at H2 ⊢
  generalize (w.heap.size + 1) = g2 at hb2 ⊢
  generalize w.heap.size = g1
  obtain ⟨l2, n2, c2⟩ := Holds.frzFacts (H2) hb2
  go_wp2_with fail
  refine (recRight_spec (⟨kind, name, attempt, epoch, mark, size, .slice as_ share.length cs_, share⟩ : Rc) H2 (HR.out.le leA) HZ.out).mono ?_
  rintro e w3 ⟨rfl, H3⟩
  rw [HOK.out]
  go_wp2_with fail
  refine bodyPost_ret (results_tmp2 rfl _ _ _) rfl ?_
  exact ⟨rfl, H3.weaken leA⟩
set_option maxHeartbeats 8000000
theorem recGet_spec {w : World} {R : Snap} {L : Asrt} {p : Nat} {v : Value} {ss : List (Value × List UInt8)} {PO : Ending → World → Prop} (H : Holds w R L) (hcy : L.celly) (hT : R.blk p = some (.cells (rowC 256) tabT (0, 0))) (hr : RdBB R.cell? v ss) (hn : ss.length ≤ 1000)
    (k : ∀ R' M (n : Nat) (ok : Bool) w', R.le R' → GotR (ss.map Prod.snd) M n ok → M.Rd R'.cell? → M.Sz → Holds w' R' L → PO (.returned (.tuple #[.agg M.cells.toArray, .int .i64 (n : Nat), .bool ok])) w') :
    Calls Try.prog 82 #[.pointer (some ⟨p, 0, none⟩), v] w PO := by
  have HK := Hid.mk' k
  clear k
  have zsz : zeroRc.Sz := ⟨by decide, Nat.zero_le _⟩
  have ZSZ := Hid.mk' zsz
  clear zsz
  obtain ⟨a, c, rfl⟩ := hr.form
  have hB := hr.bounds
  obtain ⟨N, hN⟩ : ∃ N, N = ss.length := ⟨_, rfl⟩
  have HR := Hid.mk' hr
  have HN := Hid.mk' hN
  rw [← hN] at hB hn ⊢
  obtain ⟨hB1, hB2⟩ := hB
  have H1 := H.alloc zeroRec tRec
  clear hr hN H
  go_enter Try.func82, Try.ntmps82
  go_upto_region 1 with fail
  generalize (World.alloc ..) = w1 at H1 ⊢
  generalize w.heap.size = z at H1 ⊢
  by_cases h0 : N = 0
  · subst h0
    obtain ⟨l88, n88, c88, z88⟩ := Holds.facts (H1)
    go_wp2_with fail
    have H13 := Holds.blkFull (H1) [.int .i64 0, .string ⟨#[]⟩, .int .i64 0, .int .i64 0, .int .i64 0, .int .i64 0, .slice none 0 0] rfl
    clear l88 n88 c88 z88
    generalize hw9 : World.setCell .. = w13
    replace H13 := Holds.at hw9 H13
    clear hw9
    refine bodyPost_ret (results_cell3 rfl _ _ z tRec _ (0, 0) _ rfl H13.blkAt Try.underlying108 rfl (by kernel_rfl)) rfl ?_
    refine HK.out R zeroRc 0 false _ (Snap.le.refl _) (.inr ⟨rfl, rfl, rfl, fun r h1 h2 => ?_⟩) Rd.nil ZSZ.out H13.drop
    obtain ⟨s0, rest, e, _⟩ := put_says h1 h2
    have := congrArg List.length e
    rw [List.length_map, ← HN.out] at this
    simp at this
  have t0 : ((N : Int) == 0) = false := by rw [beq_eq_false_iff_ne]; omega
  obtain ⟨⟨v0, b0⟩, tl, rfl⟩ : ∃ x tl, ss = x :: tl := by
    cases ss with
    | nil => exact absurd HN.out h0
    | cons x tl => exact ⟨x, tl, rfl⟩
  obtain ⟨b1, o1, ha, hc, hq⟩ := RdBB.at HR.out (j := 0) (by simp)
  subst ha
  replace hc : R.cell? ⟨b1, o1, none⟩ = some v0 := hc
  replace hq : RdB R.cell? v0 b0 := hq
  replace hc := H1.cell hc
  obtain ⟨a0, c0, rfl⟩ := hq.form
  have HQ := Hid.mk' hq
  have i1 : (0 : Int) < (N : Int) := by omega
  have i2 : 0 < N := by omega
  have htl : tl.length = N - 1 := by have := HN.out; simp at this; omega
  have HTL := Hid.mk' htl
  clear hq h0 htl
  have hno : openOk b0 = false → ∀ r : Rc, rcOk r = true → ¬ putR r <+: (((Value.slice a0 b0.length c0, b0) : Value × List UInt8) :: tl).map Prod.snd := fun h r h1 h2 => by
    obtain ⟨s0, rest, e, e2, _⟩ := put_says h1 h2
    obtain ⟨rfl, _⟩ := List.cons.inj e
    rw [h] at e2; cases e2
  have HNO := Hid.mk' hno
  clear hno
  go_wp2_with fail
  refine (sopen_spec H1 hT HQ.out).mono ?_
  rintro e w2 ⟨o2, rfl, H2⟩
  clear H1 hc
  cases hok : openOk b0 with
  | false =>
    have HOK := Hid.mk' hok
    clear hok
    obtain ⟨l88, n88, c88, z88⟩ := Holds.facts (H2.drop)
    go_wp2_with fail
    have H13 := Holds.blkFull (H2.drop) [.int .i64 0, .string ⟨#[]⟩, .int .i64 0, .int .i64 0, .int .i64 0, .int .i64 0, .slice none 0 0] rfl
    clear l88 n88 c88 z88
    generalize hw9 : World.setCell .. = w13
    replace H13 := Holds.at hw9 H13
    clear hw9
    refine bodyPost_ret (results_cell3 rfl _ _ z tRec _ (0, 0) _ rfl H13.blkAt Try.underlying108 rfl (by kernel_rfl)) rfl ?_
    exact HK.out R zeroRc 0 false _ (Snap.le.refl _) (.inr ⟨rfl, rfl, rfl, HNO.out HOK.out⟩) Rd.nil ZSZ.out H13.drop
  | true =>
  obtain ⟨R3, le3, H3, hr3⟩ := H2.freezeRow
  obtain ⟨pl, hpl⟩ : ∃ pl, pl = openP b0 := ⟨_, rfl⟩
  have hl60 := openOk_len hok
  rw [← hpl] at hl60
  replace hr3 : RdB R3.cell? o2 pl := by rw [hpl]; exact hr3
  obtain ⟨a2, c2, rfl⟩ := hr3.form
  have HR3 := Hid.mk' hr3
  have HPL := Hid.mk' hpl
  have HL60 := Hid.mk' hl60
  simp only [hl60]
  clear H2 hok hpl hr3 hl60 HNO
  have hT3 := le3.blk _ _ hT
  go_wp2_with fail
  refine (first_spec H3 (RdB.at_len HR3.out HL60.out) HL60.out).mono ?_
  rintro e w4 ⟨M0, lg, rfl, hvs, hsh, hns, hlg, hcm, H4⟩
  obtain ⟨kind, name, attempt, epoch, mark, size, vs0, sh0⟩ := M0
  simp only at hvs hsh hns hcm
  subst hvs hsh
  simp only [Rc.cells]
  have HCM := Hid.mk' hcm
  clear H3 hcm
  have H5 := (H4.alloc #[.int .i64 kind, .string name, .int .i64 attempt, .int .i64 epoch, .int .i64 mark, .int .i64 size, .slice none 0 0] tRec).swap
  go_wp2_with fail
  generalize (World.alloc ..) = w5 at H5 ⊢
  generalize w4.heap.size = g9 at H5 ⊢
  clear H4
  refine (bodies_spec lg (by omega) _).mono ?_
  rintro e w6 ⟨rfl, rfl⟩
  obtain ⟨n, hn1⟩ : ∃ n, n = 1 + bodiesN lg := ⟨_, rfl⟩
  have hn2 : (1 : Int) + ((bodiesN lg : Nat) : Int) = (n : Int) := by omega
  have hn9 : n ≤ 10 := by rw [hn1]; unfold bodiesN; omega
  have hnn1 : 1 ≤ n := by omega
  have HN1 := Hid.mk' hn1
  clear hn1
  -- whoever begins the sectors is the record at hand
  have hsays : ∀ r : Rc, rcOk r = true → putR r <+: b0 :: tl.map Prod.snd → kind = r.kind ∧ name = r.name ∧ attempt = r.attempt ∧ epoch = r.epoch ∧ mark = r.mark ∧ size = r.size ∧ n ≤ N ∧ n = 1 + bodiesN r.share.length ∧ shareG ((tl.map Prod.snd).take (n - 1)) = r.share := fun r h1 h2 => by
    obtain ⟨s0, rest, e, e2, e3, e4, e5⟩ := put_says h1 h2
    obtain ⟨rfl, rfl⟩ := List.cons.inj e
    rw [← HPL.out] at e3
    obtain ⟨c1, c2, c3, c4, c5, c6, c7⟩ := HCM.out r h1 e3
    have h7 : n = 1 + bodiesN r.share.length := by rw [HN1.out, c7]
    refine ⟨c1, c2, c3, c4, c5, c6, ?_, h7, ?_⟩
    · rw [List.length_map, HTL.out] at e4; omega
    · rw [h7, Nat.add_sub_cancel_left]; exact e5
  have HSY := Hid.mk' hsays
  clear hsays
  by_cases hgt : N < n
  · have t1 : decide ((N : Int) < (n : Int)) = true := by simp; omega
    go_upto_region 9 with fail
    obtain ⟨l88, n88, c88, z88⟩ := Holds.facts (H5)
    go_wp2_with fail
    have H13 := Holds.blkFull (H5) [.int .i64 0, .string ⟨#[]⟩, .int .i64 0, .int .i64 0, .int .i64 0, .int .i64 0, .slice none 0 0] rfl
    clear l88 n88 c88 z88
    generalize hw9 : World.setCell .. = w13
    replace H13 := Holds.at hw9 H13
    clear hw9
    refine bodyPost_ret (results_cell3 rfl _ _ z tRec _ (0, 0) _ rfl H13.blkAt Try.underlying108 rfl (by kernel_rfl)) rfl ?_
    exact HK.out R zeroRc 0 false _ (Snap.le.refl _) (.inr ⟨rfl, rfl, rfl, fun r h1 h2 => by have := (HSY.out r h1 h2).2.2.2.2.2.2.1; omega⟩) Rd.nil ZSZ.out (H13.drop.drop.weaken le3)
  have t1 : decide ((N : Int) < (n : Int)) = false := by simp; omega
  have t1n : decide (N < n) = false := by simp; omega
  have hsub := RdBB.sub HR.out 1 n c (by omega) (by have := HN.out; omega) (by omega) (Nat.le_refl _)
  obtain ⟨bs, hbs⟩ : ∃ bs, bs = tl.map Prod.snd := ⟨_, rfl⟩
  have hsb : (((((Value.slice a0 b0.length c0, b0) : Value × List UInt8) :: tl).drop 1).take (n - 1)).map Prod.snd = bs.take (n - 1) := by
    rw [List.drop_one, List.tail_cons, List.map_take, hbs]
  have hsl : (((((Value.slice a0 b0.length c0, b0) : Value × List UInt8) :: tl).drop 1).take (n - 1)).length ≤ 1000 := by
    rw [List.length_take]; omega
  rw [← hbs] at HSY
  have HBS := Hid.mk' hbs
  have i3 : (n : Int) ≤ (c : Int) := by omega
  have i4 : (1 : Int) ≤ (n : Int) := by omega
  have hgt' : n ≤ N := by omega
  have HSUB := Hid.mk' (hsub.le le3)
  have HSB := Hid.mk' hsb
  have HSL := Hid.mk' hsl
  clear hbs hsb hsl hgt hsub
  obtain ⟨l9, n9, c9, z9⟩ := Holds.facts (H5.swap)
  go_wp2_with fail
  refine (share_spec H5 hT3 HSUB.out HSL.out).mono ?_
  rintro e w7 ⟨o7, rfl, H7⟩
  rw [HSB.out] at H7
  obtain ⟨out, hout⟩ : ∃ out, out = shareG (bs.take (n - 1)) := ⟨_, rfl⟩
  rw [← hout] at H7
  have hol : out.length ≤ 2550 := by
    rw [hout]
    unfold shareG
    split
    · have h1 := flatT_len (bs.take (n - 1))
      have h2 : (bs.take (n - 1)).length ≤ 9 := by rw [List.length_take]; omega
      omega
    · simp
  have HOUT := Hid.mk' hout
  clear hout H5 l9 n9 c9 z9
  obtain ⟨R8, le8, H8, hr8⟩ := H7.freezeRow
  obtain ⟨a8, c8, rfl⟩ := hr8.form
  obtain ⟨m, hm⟩ : ∃ m, m = out.length := ⟨_, rfl⟩
  have HR8 := Hid.mk' hr8
  have HM := Hid.mk' hm
  rw [← hm] at hol
  simp only [← hm]
  have hT8 := le8.blk _ _ hT3
  clear H7 hr8 hm
  obtain ⟨l9, n9, c9, z9⟩ := Holds.facts (H8.swap)
  go_upto_region 11 with fail
  have H9 := (H8.swap.set 6 (.slice a8 m c8)).swap
  replace H9 : Holds _ R8 (star (blk z zeroRec tRec) (star (blk g9 #[.int .i64 kind, .string name, .int .i64 attempt, .int .i64 epoch, .int .i64 mark, .int .i64 size, .slice a8 m c8] tRec) L)) := H9
  clear H8 l9 n9 c9 z9
  generalize (World.setCell ..) = w9 at H9 ⊢
  obtain ⟨M, hMM⟩ : ∃ M : Rc, M = ⟨kind, name, attempt, epoch, mark, size, .slice a8 m c8, out⟩ := ⟨_, rfl⟩
  have hMR : M.Rd R8.cell? := by rw [hMM]; exact RdB.at_len HR8.out HM.out.symm
  have hMZ : M.Sz := by rw [hMM]; exact ⟨by simp only [maxLen]; omega, by show out.length ≤ 1000000; rw [← HM.out]; omega⟩
  have hsy : ∀ r : Rc, rcOk r = true → putR r <+: b0 :: bs → M.con = r.con ∧ n = (putR r).length := fun r h1 h2 => by
    obtain ⟨c1, c2, c3, c4, c5, c6, c7, c8, c9⟩ := HSY.out r h1 h2
    refine ⟨?_, by rw [putR_len, c8]⟩
    rw [hMM]
    simp only [Rc.con, Prod.mk.injEq, List.cons.injEq, and_true]
    exact ⟨⟨c1, c3, c4, c5, c6⟩, c2, by rw [HOUT.out, c9]⟩
  have HMR := Hid.mk' hMR
  have HMZ := Hid.mk' hMZ
  replace HSY := Hid.mk' hsy
  have hMc : M.cells = [.int .i64 kind, .string name, .int .i64 attempt, .int .i64 epoch, .int .i64 mark, .int .i64 size, .slice a8 m c8] := by rw [hMM]; rfl
  have HMC := Hid.mk' hMc
  have HCL := Hid.mk' (show (Value.agg #[.int .i64 kind, .string name, .int .i64 attempt, .int .i64 epoch, .int .i64 mark, .int .i64 size, .slice a8 m c8]) = .agg M.cells.toArray by rw [hMc])
  clear hMM hMR hMZ hsy hMc HCM HPL HQ HOUT HSUB HSB HSL
  obtain ⟨l9, n9, c9, z9⟩ := Holds.facts (H9.swap)
  go_wp2_with fail
  obtain ⟨ok, hok⟩ : ∃ ok, ok = rcOk M := ⟨_, rfl⟩
  have HOK := Hid.mk' hok.symm
  clear hok
  have leA := le3.trans le8
  cases ok with
  | false =>
    rw [HCL.out]
    refine (recPut_bad M H9 HMR.out HMZ.out HOK.out).mono ?_
    rintro e w10 ⟨rfl, H10⟩
    clear H9 l9 n9 c9 z9
    obtain ⟨l88, n88, c88, z88⟩ := Holds.facts (H10)
    go_wp2_with fail
    have H13 := Holds.blkFull (H10) [.int .i64 0, .string ⟨#[]⟩, .int .i64 0, .int .i64 0, .int .i64 0, .int .i64 0, .slice none 0 0] rfl
    clear l88 n88 c88 z88
    generalize hw9 : World.setCell .. = w13
    replace H13 := Holds.at hw9 H13
    clear hw9
    refine bodyPost_ret (results_cell3 rfl _ _ z tRec _ (0, 0) _ rfl H13.blkAt Try.underlying108 rfl (by kernel_rfl)) rfl ?_
    exact HK.out R zeroRc 0 false _ (Snap.le.refl _) (.inr ⟨rfl, rfl, rfl, fun r h1 h2 => by
      have h3 := (HSY.out r h1 (by rw [HBS.out]; exact h2)).1
      rw [rcOk_con h3, h1] at HOK
      cases HOK.out⟩) Rd.nil ZSZ.out (H13.drop.drop.weaken leA)
  | true =>
    rw [HCL.out]
    refine (recPut_ok M H9 (celly_star (celly_blk _ _ _) (celly_star (celly_blk _ _ _) hcy)) hT8 HMR.out HMZ.out HOK.out).mono ?_
    rintro e w10 ⟨o, q, rfl, hq, H10⟩
    obtain ⟨R11, le11, H11, hqq⟩ := freezeBB H10
    obtain ⟨ao, co, rfl⟩ := hqq.form
    obtain ⟨G, hG⟩ : ∃ G, G = q.length := ⟨_, rfl⟩
    have hpl : (putR M).length = G := by rw [← hq, List.length_map, hG]
    have HQQ := Hid.mk' hqq
    have HQ := Hid.mk' hq
    have HG := Hid.mk' hG
    have HPL := Hid.mk' hpl
    simp only [← hG]
    replace leA := leA.trans le11
    clear H9 l9 n9 c9 z9 H10 hqq hq hG hpl
    have hsz : R8.le R11 := le11
    by_cases hGn : G = n
    · have t2 : ((G : Int) != (n : Int)) = false := by simp; omega
      have HGN := Hid.mk' hGn
      clear hGn
      go_wp2_with fail
      go_loop [67] (fun i => ∃ j : Nat, i = .int .i64 j ∧ j ≤ G ∧ Hid (∀ k, k < j → (putR M)[k]? = (b0 :: bs)[k]?)) (fun i => G - (intOf i).toNat)
      case atStart => exact ⟨0, rfl, Nat.zero_le _, Hid.mk' (fun k h => absurd h (Nat.not_lt_zero k))⟩
      case round =>
        obtain ⟨j, rfl, hj, hA⟩ := hrel
        by_cases hlt : j < G
        · have d1 : decide ((j : Int) < (G : Int)) = true := by simp; omega
          have hjq : j < q.length := by rw [← HG.out]; exact hlt
          obtain ⟨b2, o2, ha2, hc2, hq2⟩ := RdBB.at HQQ.out hjq
          subst ha2
          have hjs : j < (((Value.slice a0 b0.length c0, b0) : Value × List UInt8) :: tl).length := by rw [← HN.out]; have := HGN.out; omega
          obtain ⟨b3, o3, ha3, hc3, hq3⟩ := RdBB.at (HR.out.le leA) hjs
          simp only [Option.some.injEq, Addr.mk.injEq, and_true] at ha3
          obtain ⟨rfl, rfl⟩ := ha3
          have e2 : q[j].2 = (putR M)[j]'(by rw [HPL.out]; exact hlt) := by simp [← HQ.out]
          have e3 : ((((Value.slice a0 b0.length c0, b0) : Value × List UInt8) :: tl)[j]).2 = (b0 :: bs)[j]'(by rw [HBS.out]; simpa using hjs) := by
            have : (b0 :: bs) = ((((Value.slice a0 b0.length c0, b0) : Value × List UInt8) :: tl)).map Prod.snd := by rw [HBS.out]; rfl
            simp only [this, List.getElem_map]
          obtain ⟨v2, hv2⟩ : ∃ v, v = q[j].1 := ⟨_, rfl⟩
          obtain ⟨l2, hl2⟩ : ∃ l, l = q[j].2 := ⟨_, rfl⟩
          obtain ⟨v3, hv3⟩ : ∃ v, v = ((((Value.slice a0 b0.length c0, b0) : Value × List UInt8) :: tl)[j]).1 := ⟨_, rfl⟩
          obtain ⟨l3, hl3⟩ : ∃ l, l = ((((Value.slice a0 b0.length c0, b0) : Value × List UInt8) :: tl)[j]).2 := ⟨_, rfl⟩
          rw [← hv2] at hc2
          rw [← hv3] at hc3
          rw [← hv2, ← hl2] at hq2
          rw [← hv3, ← hl3] at hq3
          have g2 : (putR M)[j]? = some l2 := by rw [List.getElem?_eq_getElem (by rw [HPL.out]; exact hlt), hl2, e2]
          have g3 : (b0 :: bs)[j]? = some l3 := by rw [List.getElem?_eq_getElem (by rw [HBS.out]; simpa using hjs), hl3, e3]
          replace hc2 := H11.cell hc2
          replace hc3 := H11.cell hc3
          obtain ⟨av2, cv2, rfl⟩ := hq2.form
          obtain ⟨av3, cv3, rfl⟩ := hq3.form
          have HE := Hid.mk' (bytesEqual_spec (Rd.world hq2 H11) (Rd.world hq3 H11))
          have G2 := Hid.mk' g2
          have G3 := Hid.mk' g3
          have i5 : (0 : Int) ≤ (j : Int) := by omega
          have i6 : (j : Int) < (G : Int) := by omega
          have i7 : (j : Int) < (N : Int) := by have := HGN.out; omega
          clear e2 e3 hv2 hl2 hv3 hl3 g2 g3 hq2 hq3 hjs hjq
          go_wp2_with fail
          refine HE.out.mono ?_
          rintro e w12 ⟨rfl, rfl⟩
          by_cases hll : l2 = l3
          · rw [decide_eq_true hll]
            have HLL := Hid.mk' hll
            clear hll
            go_wp2_with fail
            go_round
            case rel =>
              refine ⟨j + 1, by go_num, hlt, Hid.mk' (fun k h2 => ?_)⟩
              rcases Nat.lt_or_ge k j with h3 | h3
              · exact hA.out k h3
              · obtain rfl : k = j := by omega
                rw [G2.out, G3.out, HLL.out]
            case measure => simp [intOf]; omega
          · rw [decide_eq_false hll]
            have HLL := Hid.mk' hll
            clear hll
            obtain ⟨l88, n88, c88, z88⟩ := Holds.facts (H11)
            go_wp2_with fail
            have H13 := Holds.blkFull (H11) [.int .i64 0, .string ⟨#[]⟩, .int .i64 0, .int .i64 0, .int .i64 0, .int .i64 0, .slice none 0 0] rfl
            clear l88 n88 c88 z88
            generalize hw9 : World.setCell .. = w13
            replace H13 := Holds.at hw9 H13
            clear hw9
            refine bodyPost_ret (results_cell3 rfl _ _ z tRec _ (0, 0) _ rfl H13.blkAt Try.underlying108 rfl (by kernel_rfl)) rfl ?_
            exact HK.out R zeroRc 0 false _ (Snap.le.refl _) (.inr ⟨rfl, rfl, rfl, fun r h1 h2 => by
              have h2' : putR r <+: b0 :: bs := by rw [HBS.out]; exact h2
              have h3 := putR_con (HSY.out r h1 h2').1
              rw [← h3] at h2'
              obtain ⟨t, ht⟩ := h2'
              have h4 : (b0 :: bs)[j]? = (putR M)[j]? := by rw [← ht, List.getElem?_append_left (by rw [HPL.out]; exact hlt)]
              rw [G2.out, G3.out] at h4
              exact HLL.out (Option.some.inj h4).symm⟩) Rd.nil ZSZ.out (H13.drop.drop.weaken leA)
        · have d1 : decide ((j : Int) < (G : Int)) = false := by simp; omega
          obtain rfl : j = G := by omega
          have hpre : putR M <+: b0 :: bs := by
            rw [List.prefix_iff_eq_take]
            apply List.ext_getElem?
            intro k
            rw [List.getElem?_take, HPL.out]
            split
            · exact hA.out k (by assumption)
            · rw [List.getElem?_eq_none]; rw [HPL.out]; omega
          have HPRE := Hid.mk' hpre
          clear hpre hA
          obtain ⟨l9, n9, c9, z9⟩ := Holds.facts (H11.swap)
          obtain ⟨l98, n98, c98, z98⟩ := Holds.facts (H11)
          obtain ⟨s1, s2⟩ := Holds.apart H11
          go_wp2_with fail
          have H13 := Holds.blkFull H11 [.int .i64 kind, .string name, .int .i64 attempt, .int .i64 epoch, .int .i64 mark, .int .i64 size, .slice a8 m c8] rfl
          clear l9 n9 c9 z9 l98 n98 c98 z98 s1 s2
          generalize hw9 : World.setCell .. = w13
          replace H13 := Holds.at hw9 H13
          clear hw9
          refine bodyPost_ret (results_cell3 rfl _ _ z tRec _ (0, 0) _ rfl H13.blkAt Try.underlying108 rfl (by kernel_rfl)) rfl ?_
          have hfin := HK.out R11 M n true _ leA (.inl ⟨rfl, HOK.out, by have := HPRE.out; rw [HBS.out] at this; exact this, by rw [HPL.out]; exact HGN.out.symm⟩) (HMR.out.le hsz) HMZ.out H13.drop.drop
          rw [← HCL.out] at hfin
          exact hfin
    · have t2 : ((G : Int) != (n : Int)) = true := by simp; omega
      have HGN := Hid.mk' hGn
      clear hGn
      obtain ⟨l88, n88, c88, z88⟩ := Holds.facts (H11)
      go_wp2_with fail
      have H13 := Holds.blkFull (H11) [.int .i64 0, .string ⟨#[]⟩, .int .i64 0, .int .i64 0, .int .i64 0, .int .i64 0, .slice none 0 0] rfl
      clear l88 n88 c88 z88
      generalize hw9 : World.setCell .. = w13
      replace H13 := Holds.at hw9 H13
      clear hw9
      refine bodyPost_ret (results_cell3 rfl _ _ z tRec _ (0, 0) _ rfl H13.blkAt Try.underlying108 rfl (by kernel_rfl)) rfl ?_
      exact HK.out R zeroRc 0 false _ (Snap.le.refl _) (.inr ⟨rfl, rfl, rfl, fun r h1 h2 => by
        have h3 := HSY.out r h1 (by rw [HBS.out]; exact h2)
        have h4 := putR_con h3.1
        rw [← h4, HPL.out] at h3
        exact HGN.out h3.2.symm⟩) Rd.nil ZSZ.out (H13.drop.drop.weaken leA)
end Sh
