/- RecRLabelG MsgRRd RecRGet SecsAct RecGetsLaw: joined texts, each with its own sentence below. -/
import Derived.Test.YtmogagcffebbaaaRg7
import Derived.Test.YtmogagcffebbaaaRg2
import Derived.Test.YtmogagcffebbaaaRg12
import Derived.BigQuiet
import Derived.Test.YtmogagcffebbaaaRg10
import Derived.Test.YtmogagcffebbaaaRg11
/- The reference's names: sherdref07.Get. -/
set_option linter.unusedVariables false
set_option linter.unusedSimpArgs false
namespace Sh
open Go Go.RowKit Go.Proofs
attribute [local go_sem ↓] Go.wp_at_zero Go.wp_at_succ
set_option maxHeartbeats 1000000
set_option maxRecDepth 100000

theorem nameB_facts {s : ByteArray} (h : nameOk s = true) : ((nameB s).getD 0 0).toNat = s.size ∧ ((nameB s).drop 1).take s.size = strB s ∧ (∀ j, 1 + s.size ≤ j → j < 17 → (nameB s).getD j 0 = 0) := by
  have hs := nameOk_le h
  have e : nameB s = UInt8.ofNat s.size :: (strB s ++ List.replicate (16 - s.size) 0) := by
    rw [nameB, nb_byte (by omega)]; rfl
  have hl := strB_sz s
  rw [e]
  refine ⟨?_, ?_, fun j h1 h2 => ?_⟩
  · show (UInt8.ofNat s.size).toNat = s.size
    rw [UInt8.toNat_ofNat']; omega
  · rw [List.drop_one, List.tail_cons, List.take_left' hl]
  · obtain ⟨i, rfl⟩ : ∃ i, j = i + 1 := ⟨j - 1, by omega⟩
    rw [List.getD_cons_succ, List.getD_eq_getElem?_getD, List.getElem?_append_right (by omega), List.getElem?_replicate]
    split <;> rfl
theorem strB_mk (l : List UInt8) : strB ⟨l.toArray⟩ = l := rfl
theorem strB_inj {s t : ByteArray} (h : strB s = strB t) : s = t := by
  cases s; cases t
  simp only [strB, ByteArray.mk.injEq] at h ⊢
  exact Array.toList_inj.1 h
theorem lrget_spec {w : World} {v : Value} {b : List UInt8} {PO : Ending → World → Prop} (hr : RdB w.cell? v b) (h17 : b.length = 17)
    (k : ∀ (nm : ByteArray) (ok : Bool), nm.size ≤ 16 → (∀ s, nameOk s = true → b = nameB s → nm = s ∧ ok = true) → PO (.returned (.tuple #[.string nm, .bool ok])) w) :
    Calls Try.prog 161 #[v] w PO := by
  have HK := Hid.mk' k
  clear k
  obtain ⟨n, hn⟩ : ∃ n, n = (b.getD 0 0).toNat := ⟨_, rfl⟩
  have hn255 : n ≤ 255 := by have := (b.getD 0 0).toNat_lt; omega
  have HB : Hid (∀ s, nameOk s = true → b = nameB s → n = s.size ∧ (b.drop 1).take n = strB s ∧ ∀ j, 1 + n ≤ j → j < 17 → b.getD j 0 = 0) := Hid.mk' (fun s h1 h2 => by
    obtain ⟨f1, f2, f3⟩ := nameB_facts h1
    have e : n = s.size := by rw [hn, h2, f1]
    refine ⟨e, ?_, ?_⟩
    · rw [e, h2, f2]
    · rw [e, h2]; exact f3)
  have hcell : ∀ j, j < 17 → ∃ bb o, v = .slice (some ⟨bb, o, none⟩) 17 0 ∨ True := fun _ _ => ⟨0, 0, .inr trivial⟩
  clear hcell
  obtain ⟨a, c, rfl⟩ := hr.form
  have hr17 := hr
  rw [h17] at hr17 ⊢
  obtain ⟨b1, o1, rfl, hcell⟩ := RdB.open hr17 (by omega)
  have hbd := (Rd.bounds hr)
  rw [h17] at hbd
  have hc17 : 17 ≤ c := hbd.1
  have c0 : w.cell? ⟨b1, o1, none⟩ = some (.int .u8 (n : Int)) := by
    have h := hcell 0 (by omega)
    rw [Nat.add_zero] at h
    rw [h, hn, List.getD_eq_getElem?_getD, List.getElem?_eq_getElem (by omega)]; rfl
  have HC : Hid (∀ j (h : j < 17), w.cell? ⟨b1, o1 + j, none⟩ = some (.int .u8 ((b.getD j 0).toNat : Int))) := Hid.mk' (fun j h => by
    have h := hcell j (by omega)
    rw [h, List.getD_eq_getElem?_getD, List.getElem?_eq_getElem (by omega)]; rfl)
  have hsub : n ≤ 16 → RdB w.cell? (.slice (adr (some ⟨b1, o1, none⟩) c 1 1) n (c - 1)) ((b.drop 1).take n) := fun h => by
    have h2 := RdB.sub hr 1 (1 + n) c (by omega) (by omega) (by omega) (Nat.le_refl _)
    rw [Nat.add_sub_cancel_left] at h2
    exact h2
  clear hcell hbd hr17 hr hn
  have HSUB := Hid.mk' hsub
  clear hsub
  by_cases h16 : n ≤ 16
  · have t0 : decide ((16 : Int) < (n : Int)) = false := by simp; omega
    have hcv := convStr (HSUB.out h16)
    obtain ⟨S, hS⟩ : ∃ S : ByteArray, S = ⟨((b.drop 1).take n).toArray⟩ := ⟨_, rfl⟩
    rw [← hS] at hcv
    have hSl : S.size = n := by
      rw [← strB_sz, hS, strB_mk, List.length_take, List.length_drop]; omega
    have HS := Hid.mk' hS
    have i1 : (1 : Int) ≤ 1 + (n : Int) := by omega
    have i2 : 1 + (n : Int) ≤ (c : Int) := by omega
    have i3 : (1 + (n : Int)).toNat = 1 + n := by omega
    have i4 : 1 + n - 1 = n := by omega
    have hR := rright_spec (s := S) (by rw [hSl]; simp only [maxLen]; omega)
    have HSL := Hid.mk' hSl
    clear hS hSl
    go_enter Try.func161, Try.ntmps161
    go_wp2_with fail
    refine (hR _).mono ?_
    rintro e w2 ⟨rfl, rfl⟩
    cases hok : nameOk S with
    | false =>
      have HOK := Hid.mk' hok
      clear hok
      go_wp2_with fail
      exact HK.out _ _ (by decide) (fun s h1 h2 => by
        obtain ⟨_, f2, _⟩ := HB.out s h1 h2
        have e : S = s := strB_inj (by rw [HS.out, strB_mk, f2])
        have := HOK.out
        rw [e, h1] at this; cases this)
    | true =>
      go_wp2_with fail
      go_loop [5] (fun i => ∃ j : Nat, i = .int .i64 (j : Nat) ∧ 1 + n ≤ j ∧ j ≤ 17) (fun i => 17 - (intOf i).toNat)
      case atStart => exact ⟨1 + n, by go_num, by omega, by omega⟩
      case round =>
        obtain ⟨j, rfl, hj1, hj⟩ := hrel
        by_cases hlt : j < 17
        · have d1 : decide ((j : Int) < 17) = true := by simp; omega
          have cj := HC.out j hlt
          obtain ⟨x, hx⟩ : ∃ x, x = b.getD j 0 := ⟨_, rfl⟩
          rw [← hx] at cj
          have HX := Hid.mk' hx
          clear hx
          have i5 : (0 : Int) ≤ (j : Int) := by omega
          have i6 : (j : Int) < 17 := by omega
          by_cases hz : (x.toNat : Int) = 0
          · have t1 : ((x.toNat : Int) != 0) = false := by rw [hz]; rfl
            have HZ := Hid.mk' hz
            clear hz
            go_wp2_with fail
            go_round
            case rel => exact ⟨j + 1, by go_num, by omega, by omega⟩
            case measure => simp [intOf]; omega
          · have t1 : ((x.toNat : Int) != 0) = true := by rw [bne_iff_ne]; exact hz
            have HZ := Hid.mk' hz
            clear hz
            go_wp2_with fail
            exact HK.out _ _ (by decide) (fun s h1 h2 => by
              obtain ⟨_, _, f3⟩ := HB.out s h1 h2
              have := f3 j hj1 hlt
              rw [← HX.out] at this
              exact absurd (by rw [this]; rfl) HZ.out)
        · have d1 : decide ((j : Int) < 17) = false := by simp; omega
          go_wp2_with fail
          exact HK.out _ _ (by rw [HSL.out]; exact h16) (fun s h1 h2 => by
            obtain ⟨_, f2, _⟩ := HB.out s h1 h2
            exact ⟨strB_inj (by rw [HS.out, strB_mk, f2]), rfl⟩)
  · have t0 : decide ((16 : Int) < (n : Int)) = true := by simp; omega
    have H16 := Hid.mk' h16
    clear h16
    go_enter Try.func161, Try.ntmps161
    go_wp2_with fail
    exact HK.out _ _ (by decide) (fun s h1 h2 => by
      obtain ⟨f1, _, _⟩ := HB.out s h1 h2
      have := nameOk_le h1
      exact absurd (by omega) H16.out)
end Sh
/- The packer's reference: what it reads by, over the bytes that are left. -/
set_option linter.unusedVariables false
set_option linter.unusedSimpArgs false
namespace Sh
open Go Go.RowKit Go.Proofs
attribute [local go_sem ↓] Go.wp_at_zero Go.wp_at_succ
set_option maxHeartbeats 1000000
set_option maxRecDepth 100000

abbrev tR6 : TypeId := 167
def Pos (b : List UInt8) (at_ : Nat) (s : PSt) : Prop := at_ ≤ b.length ∧ b.drop at_ = s.1
theorem Pos.done {b : List UInt8} {at_ : Nat} {s : PSt} (h : Pos b at_ s) : (at_ = b.length) ↔ s.1 = [] := by
  obtain ⟨h1, h2⟩ := h
  rw [← h2, List.drop_eq_nil_iff]
  omega
theorem rr_num {w : World} {R : Snap} {L : Asrt} {p at_ : Nat} {v : Value} {b : List UInt8} {s : PSt} {k : Nat} (hk : wid k = k) (H : Holds w R (star (blk p #[v, .int .i64 at_, .bool s.2] tR6) L)) (hr : RdB R.cell? v b) (hp : Pos b at_ s) (hb : b.length ≤ 1000000) :
    Calls Try.prog 137 #[.pointer (some ⟨p, 0, none⟩), .int .i64 (k : Int)] w fun e w' => ∃ at' : Nat, e = .returned (.int .i64 ((pNum k s).1 : Nat)) ∧ Holds w' R (star (blk p #[v, .int .i64 at', .bool (pNum k s).2.2] tR6) L) ∧ Pos b at' (pNum k s).2 := by
  refine (refrnum_spec (k := (k : Int)) H hr hp.1 hb).mono ?_
  rintro e w2 ⟨rfl, H2⟩
  rw [hk, hp.2] at *
  refine ⟨_, rfl, H2, cutAt_le hp.1, ?_⟩
  rw [drop_cutAt, hp.2]; rfl
theorem rr_text {w : World} {R : Snap} {L : Asrt} {p at_ : Nat} {v : Value} {b : List UInt8} {s : PSt} (H : Holds w R (star (blk p #[v, .int .i64 at_, .bool s.2] tR6) L)) (hr : RdB R.cell? v b) (hp : Pos b at_ s) (hb : b.length ≤ 1000000) :
    Calls Try.prog 138 #[.pointer (some ⟨p, 0, none⟩)] w fun e w' => ∃ (o : Value) (at' : Nat), e = .returned o ∧ Holds w' R (star (rowB o (pText s).1) (star (blk p #[v, .int .i64 at', .bool (pText s).2.2] tR6) L)) ∧ Pos b at' (pText s).2 := by
  refine (refrtext_spec H hr hp.1 hb).mono ?_
  rintro e w2 ⟨o, rfl, H2⟩
  rw [hp.2] at *
  refine ⟨o, _, rfl, H2, cutAt_le (cutAt_le hp.1), ?_⟩
  rw [drop_cutAt, drop_cutAt, hp.2]; rfl
end Sh
/- sherdref20.Get. -/
set_option linter.unusedVariables false
set_option linter.unusedSimpArgs false
namespace Sh
open Go Go.RowKit Go.Proofs
attribute [local go_sem ↓] Go.wp_at_zero Go.wp_at_succ
set_option maxHeartbeats 1000000
set_option maxRecDepth 100000

theorem head_rparse {r : Rc} {p : List UInt8} (hok : rcOk r = true) (hp : headR r <+: p) {a2 a3 a4 a5 a6 : Nat × PSt} (h2 : a2 = pNum 4 (p.drop 19, false)) (h3 : a3 = pNum 4 a2.2) (h4 : a4 = pNum 4 a3.2) (h5 : a5 = pNum 2 a4.2) (h6 : a6 = pNum 1 a5.2) :
    ((p.getD 1 0).toNat : Int) = r.kind ∧ (p.drop 2).take 17 = nameB r.name ∧ (a2.1 : Int) = r.attempt ∧ (a3.1 : Int) = r.epoch ∧ (a4.1 : Int) = r.mark ∧ (a5.1 : Int) = r.size ∧ a6.1 = r.share.length := by
  obtain ⟨k1, f1, f2, f3, f4, f5, f6⟩ := rcOk_bounds hok
  obtain ⟨t, ht⟩ := hp
  have hnl := nameB_len k1
  have hd : p = 72 :: UInt8.ofNat r.kind.toNat :: (nameB r.name ++ (nb 4 r.attempt ++ (nb 4 r.epoch ++ (nb 4 r.mark ++ (nb 2 r.size ++ (nb 1 (r.share.length : Int) ++ t)))))) := by
    rw [← ht, headR, nb_byte (by omega), nb_byte (by omega)]
    simp only [List.append_assoc]; rfl
  have h19 : p.drop 19 = nb 4 r.attempt ++ (nb 4 r.epoch ++ (nb 4 r.mark ++ (nb 2 r.size ++ (nb 1 (r.share.length : Int) ++ t)))) := by
    rw [hd]
    show (nameB r.name ++ _).drop 17 = _
    rw [List.drop_left' hnl]
  obtain ⟨e2, s2⟩ := num_at (k := 4) (s := (p.drop 19, false)) (by rw [h19]; rfl) (by decide) f1.1 (show r.attempt < 256 ^ 4 by omega)
  rw [← h2] at e2 s2
  obtain ⟨e3, s3⟩ := num_at (k := 4) s2 (by decide) f2.1 (show r.epoch < 256 ^ 4 by omega)
  rw [← h3] at e3 s3
  obtain ⟨e4, s4⟩ := num_at (k := 4) s3 (by decide) f3.1 (show r.mark < 256 ^ 4 by omega)
  rw [← h4] at e4 s4
  obtain ⟨e5, s5⟩ := num_at (k := 2) s4 (by decide) f4.1 (show r.size < 256 ^ 2 by omega)
  rw [← h5] at e5 s5
  obtain ⟨e6, s6⟩ := num_at (k := 1) s5 (by decide) (by omega) (show (r.share.length : Int) < 256 ^ 1 by omega)
  rw [← h6] at e6
  refine ⟨?_, ?_, e2, e3, e4, e5, by omega⟩
  · rw [hd]
    show ((UInt8.ofNat r.kind.toNat).toNat : Int) = _
    rw [UInt8.toNat_ofNat']; omega
  · rw [hd]
    show (nameB r.name ++ _).take 17 = _
    exact List.take_left' hnl
theorem body_rparse {r : Rc} (h : rcOk r = true) (i : Nat) : openOk (sealS (bodyR r i)) = true ∧ ((openP (sealS (bodyR r i))).getD 11 0).toNat = (pieceL r i).length ∧ ((openP (sealS (bodyR r i))).drop 12).take (pieceL r i).length = pieceL r i := by
  have hl := bodyR_len r i
  have hpl := pieceL_len r i
  obtain ⟨o1, o2⟩ := open_seal hl
  refine ⟨o1, ?_⟩
  rw [o2, padTo60, List.take_of_length_le hl]
  obtain ⟨A, hA, hAl⟩ : ∃ A : List UInt8, bodyR r i = A ++ (UInt8.ofNat (pieceL r i).length :: pieceL r i) ∧ A.length = 11 := by
    refine ⟨nb 1 66 ++ (nb 1 (i : Int) ++ (nb 1 r.kind ++ (nb 4 r.attempt ++ nb 4 r.epoch))), ?_, by simp [nb_length, wid_1, wid_4]⟩
    simp only [bodyR, tx, List.append_assoc]
    rw [Nat.min_eq_left (by omega), List.take_of_length_le (by omega), nb_one (pieceL r i).length]
    rfl
  rw [hA, List.append_assoc]
  constructor
  · rw [List.getD_eq_getElem?_getD, List.getElem?_append_right (by omega), hAl]
    show (UInt8.ofNat (pieceL r i).length).toNat = _
    rw [UInt8.toNat_ofNat']; omega
  · have e : ∀ Z : List UInt8, (A ++ (UInt8.ofNat (pieceL r i).length :: pieceL r i ++ Z)).drop 12 = pieceL r i ++ Z := fun Z => by
      rw [show 12 = A.length + 1 by omega, ← List.drop_drop, List.drop_left]; rfl
    rw [e, List.take_left]
theorem putR_at {r : Rc} {ss : List (List UInt8)} (hp : putR r <+: ss) {i : Nat} (h : i < bodiesN r.share.length) : ss[i + 1]? = some (sealS (bodyR r i)) := by
  obtain ⟨t, rfl⟩ := hp
  rw [List.getElem?_append_left (by rw [putR_len]; omega), putR, List.getElem?_cons_succ, List.getElem?_map, List.getElem?_range h]; rfl
/-- What a round of the reference's reader meets, if the sectors begin with a record's. -/
theorem round_law {r : Rc} {ss : List (List UInt8)} {j : Nat} {T y : List UInt8} (hok : rcOk r = true) (hp : putR r <+: ss) (hT : T = r.share.take (j * 48)) (hlt : T.length < r.share.length) (hy : ss[j + 1]? = some y) :
    openOk y = true ∧ ((openP y).getD 11 0).toNat ≤ 48 ∧ ((openP y).getD 11 0).toNat ≠ 0 ∧ T ++ ((openP y).drop 12).take ((openP y).getD 11 0).toNat = r.share.take ((j + 1) * 48) ∧ j + 1 ≤ bodiesN r.share.length := by
  have hj : j * 48 < r.share.length := by
    rw [hT, List.length_take] at hlt; omega
  have hjb : j < bodiesN r.share.length := by unfold bodiesN; omega
  rw [putR_at hp hjb] at hy
  obtain rfl := Option.some.inj hy
  obtain ⟨h1, h2, h3⟩ := body_rparse hok j
  have h4 := pieceL_len r j
  have h5 : (pieceL r j).length ≠ 0 := by unfold pieceL; rw [List.length_take, List.length_drop]; omega
  rw [h2, h3]
  refine ⟨h1, h4, h5, ?_, hjb⟩
  rw [hT, pieceL, Nat.add_mul, Nat.one_mul]
  exact (List.take_add ..).symm
set_option maxHeartbeats 8000000
theorem rrecGet_spec {w : World} {R : Snap} {L : Asrt} {v : Value} {ss : List (Value × List UInt8)} {PO : Ending → World → Prop} (H : Holds w R L) (hr : RdBB R.cell? v ss) (hn : ss.length ≤ 1000) (hlen : ∀ x ∈ ss, x.2.length ≤ 1000000)
    (k : ∀ R' M (n : Nat) (ok : Bool) w', R.le R' → GotR (ss.map Prod.snd) M n ok → M.Rd R'.cell? → M.Sz → Holds w' R' L → PO (.returned (.tuple #[.agg M.cells.toArray, .int .i64 (n : Nat), .bool ok])) w') :
    Calls Try.prog 85 #[v] w PO := by
  have HK := Hid.mk' k
  have HLN := Hid.mk' hlen
  clear k hlen
  have zsz : zeroRc.Sz := ⟨by decide, Nat.zero_le _⟩
  have ZSZ := Hid.mk' zsz
  clear zsz
  obtain ⟨a, c, rfl⟩ := hr.form
  have hB := hr.bounds
  obtain ⟨N, hN⟩ : ∃ N, N = ss.length := ⟨_, rfl⟩
  have HR := Hid.mk' hr
  have HN := Hid.mk' hN
  rw [← hN] at hB hn ⊢
  obtain ⟨hB1, hB2⟩ := hB
  have H1 := H.alloc zeroRec tRec
  clear hr hN H
  go_enter Try.func85, Try.ntmps85
  go_upto_region 1 with fail
  generalize (World.alloc ..) = w1 at H1 ⊢
  generalize w.heap.size = z at H1 ⊢
  by_cases h0 : N = 0
  · subst h0
    obtain ⟨l88, n88, c88, z88⟩ := Holds.facts (H1)
    go_wp2_with fail
    have H13 := Holds.blkFull (H1) [.int .i64 0, .string ⟨#[]⟩, .int .i64 0, .int .i64 0, .int .i64 0, .int .i64 0, .slice none 0 0] rfl
    clear l88 n88 c88 z88
    generalize hw9 : World.setCell .. = w13
    replace H13 := Holds.at hw9 H13
    clear hw9
    refine bodyPost_ret (results_cell3 rfl _ _ z tRec _ (0, 0) _ rfl H13.blkAt Try.underlying108 rfl (by kernel_rfl)) rfl ?_
    refine HK.out R zeroRc 0 false _ (Snap.le.refl _) (.inr ⟨rfl, rfl, rfl, fun r h1 h2 => ?_⟩) Rd.nil ZSZ.out H13.drop
    obtain ⟨s0, rest, e, _⟩ := put_says h1 h2
    have := congrArg List.length e
    rw [List.length_map, ← HN.out] at this
    simp at this
  have t0 : ((N : Int) == 0) = false := by rw [beq_eq_false_iff_ne]; omega
  obtain ⟨⟨v0, b0⟩, tl, rfl⟩ : ∃ x tl, ss = x :: tl := by
    cases ss with
    | nil => exact absurd HN.out h0
    | cons x tl => exact ⟨x, tl, rfl⟩
  obtain ⟨b1, o1, ha, hc, hq⟩ := RdBB.at HR.out (j := 0) (by simp)
  subst ha
  replace hc : R.cell? ⟨b1, o1, none⟩ = some v0 := hc
  replace hq : RdB R.cell? v0 b0 := hq
  replace hc := H1.cell hc
  obtain ⟨a0, c0, rfl⟩ := hq.form
  have HQ := Hid.mk' hq
  have i1 : (0 : Int) < (N : Int) := by omega
  have i2 : 0 < N := by omega
  have HB0 := Hid.mk' (HLN.out _ List.mem_cons_self)
  clear hq h0
  obtain ⟨bss, hbss⟩ : ∃ bss, bss = (((Value.slice a0 b0.length c0, b0) : Value × List UInt8) :: tl).map Prod.snd := ⟨_, rfl⟩
  have hno : openOk b0 = false → ∀ r : Rc, rcOk r = true → ¬ putR r <+: bss := fun h r h1 h2 => by
    rw [hbss] at h2
    obtain ⟨s0, rest, e, e2, _⟩ := put_says h1 h2
    obtain ⟨rfl, _⟩ := List.cons.inj e
    rw [h] at e2; cases e2
  have hhd : ∀ r : Rc, rcOk r = true → putR r <+: bss → headR r <+: openP b0 := fun r h1 h2 => by
    rw [hbss] at h2
    obtain ⟨s0, rest, e, _, e3, _⟩ := put_says h1 h2
    obtain ⟨rfl, _⟩ := List.cons.inj e
    exact e3
  have HNO := Hid.mk' hno
  have HHD := Hid.mk' hhd
  have HBS := Hid.mk' hbss
  rw [← hbss] at HK
  clear hno hhd hbss
  go_wp2_with fail
  refine (rsopen_spec H1 HQ.out).mono ?_
  rintro e w2 ⟨o2, rfl, H2⟩
  clear H1 hc
  cases hok : openOk b0 with
  | false =>
    have HOK := Hid.mk' hok
    clear hok
    obtain ⟨l88, n88, c88, z88⟩ := Holds.facts (H2.drop)
    go_wp2_with fail
    have H13 := Holds.blkFull (H2.drop) [.int .i64 0, .string ⟨#[]⟩, .int .i64 0, .int .i64 0, .int .i64 0, .int .i64 0, .slice none 0 0] rfl
    clear l88 n88 c88 z88
    generalize hw9 : World.setCell .. = w13
    replace H13 := Holds.at hw9 H13
    clear hw9
    refine bodyPost_ret (results_cell3 rfl _ _ z tRec _ (0, 0) _ rfl H13.blkAt Try.underlying108 rfl (by kernel_rfl)) rfl ?_
    exact HK.out R zeroRc 0 false _ (Snap.le.refl _) (.inr ⟨rfl, rfl, rfl, HNO.out HOK.out⟩) Rd.nil ZSZ.out H13.drop
  | true =>
  obtain ⟨R3, le3, H3, hr3⟩ := H2.freezeRow
  obtain ⟨pl, hpl⟩ : ∃ pl, pl = openP b0 := ⟨_, rfl⟩
  have hl60 := openOk_len hok
  rw [← hpl] at hl60 HHD
  replace hr3 : RdB R3.cell? o2 pl := by rw [hpl]; exact hr3
  obtain ⟨a2, c2, rfl⟩ := hr3.form
  have hc60 := (Rd.bounds hr3).1
  rw [hl60] at hc60
  obtain ⟨bp, op, rfl, hcell⟩ := RdB.open hr3 (by omega)
  obtain ⟨x1, hx1⟩ : ∃ x, x = pl.getD 1 0 := ⟨_, rfl⟩
  have hx1' := u8_lt x1
  have c1 : R3.cell? ⟨bp, op + 1, none⟩ = some (.int .u8 (x1.toNat : Int)) := by
    rw [hcell 1 (by omega), hx1, List.getD_eq_getElem?_getD, List.getElem?_eq_getElem (by omega)]; rfl
  have C1 := Hid.mk' c1
  have HX1 := Hid.mk' hx1
  have hsub := RdB.sub hr3 2 19 c2 (by decide) (by omega) (by omega) (Nat.le_refl _)
  have hs17 : ((pl.drop 2).take (19 - 2)).length = 17 := by rw [List.length_take, List.length_drop, hl60]; rfl
  replace hsub : RdB R3.cell? (.slice (adr (some ⟨bp, op, none⟩) c2 2 1) 17 (c2 - 2)) ((pl.drop 2).take 17) := hsub
  replace hs17 : ((pl.drop 2).take 17).length = 17 := hs17
  have HR3 := Hid.mk' hr3
  have HL60 := Hid.mk' hl60
  have HSUB := Hid.mk' hsub
  have HS17 := Hid.mk' hs17
  have i5 : (19 : Int) ≤ (c2 : Int) := by omega
  simp only [hl60]
  clear H2 hok hpl hr3 hl60 HNO hsub hs17 hcell c1 hx1
  have leA := le3
  go_wp2_with fail
  refine lrget_spec (b := (pl.drop 2).take 17) (Rd.world HSUB.out H3) HS17.out ?_
  intro nm okn hns hnc
  have HNC := Hid.mk' hnc
  clear hnc
  cases okn with
  | false =>
    obtain ⟨l88, n88, c88, z88⟩ := Holds.facts (H3)
    go_wp2_with fail
    have H13 := Holds.blkFull (H3) [.int .i64 0, .string ⟨#[]⟩, .int .i64 0, .int .i64 0, .int .i64 0, .int .i64 0, .slice none 0 0] rfl
    clear l88 n88 c88 z88
    generalize hw9 : World.setCell .. = w13
    replace H13 := Holds.at hw9 H13
    clear hw9
    refine bodyPost_ret (results_cell3 rfl _ _ z tRec _ (0, 0) _ rfl H13.blkAt Try.underlying108 rfl (by kernel_rfl)) rfl ?_
    exact HK.out R zeroRc 0 false _ (Snap.le.refl _) (.inr ⟨rfl, rfl, rfl, fun r h1 h2 => by
      have h3 := (head_rparse h1 (HHD.out r h1 h2) rfl rfl rfl rfl rfl).2.1
      have h4 := (HNC.out r.name (rcOk_bounds h1).1 h3).2
      cases h4⟩) Rd.nil ZSZ.out (H13.drop.weaken leA)
  | true =>
  go_upto_region 10 with fail
  have H5 := H3.alloc #[.slice (some ⟨bp, op, none⟩) 60 c2, .int .i64 19, .bool false] tR6
  generalize (World.alloc ..) = w5 at H5 ⊢
  generalize w2.heap.size = g9 at H5 ⊢
  clear H3
  have cc1 := H5.cell C1.out
  go_upto_region 11 with fail
  have H7 := (H5.alloc #[.int .i64 (x1.toNat : Int), .string nm, .int .i64 0, .int .i64 0, .int .i64 0, .int .i64 0, .slice none 0 0] tRec).swap
  generalize (World.alloc ..) = w7 at H7 ⊢
  generalize w5.heap.size = g10 at H7 ⊢
  clear H5 cc1 C1
  have hr1 : RdB R3.cell? (.slice (some ⟨bp, op, none⟩) 60 c2) pl := RdB.at_len HR3.out HL60.out
  have hp1 : Pos pl 19 (pl.drop 19, false) := ⟨by rw [HL60.out]; decide, rfl⟩
  have hl1 : pl.length ≤ 1000000 := by rw [HL60.out]; decide
  have HR1 := Hid.mk' hr1
  have HL1 := Hid.mk' hl1
  clear hr1 hl1
  go_wp2_with fail
  refine (rr_num (s := (pl.drop 19, false)) (k := 4) (at_ := 19) (by decide) H7 HR1.out hp1 HL1.out).mono ?_
  rintro e w8 ⟨at2, rfl, H8, hp2⟩
  obtain ⟨a2, ha⟩ : ∃ a, a = pNum 4 (pl.drop 19, false) := ⟨_, rfl⟩
  rw [← ha] at H8 hp2 ⊢
  have A2 := Hid.mk' ha
  clear ha H7 hp1
  obtain ⟨l8, n8, c8, z8⟩ := Holds.facts (H8.swap)
  go_upto_region 12 with fail
  have H7 := (H8.swap.set 2 (.int .i64 ((a2.1 : Nat) : Int))).swap
  replace H7 : Holds _ R3 (star (blk g9 #[.slice (some ⟨bp, op, none⟩) 60 c2, .int .i64 (at2 : Int), .bool a2.2.2] tR6) (star (blk g10 #[.int .i64 (x1.toNat : Int), .string nm, .int .i64 ((a2.1 : Nat) : Int), .int .i64 0, .int .i64 0, .int .i64 0, .slice none 0 0] tRec) (star (blk z zeroRec tRec) L))) := H7
  clear H8 l8 n8 c8 z8
  generalize (World.setCell ..) = w9 at H7 ⊢
  have hp1 := hp2
  clear hp2
  go_wp2_with fail
  refine (rr_num (s := a2.2) (k := 4) (at_ := at2) (by decide) H7 HR1.out hp1 HL1.out).mono ?_
  rintro e w8 ⟨at3, rfl, H8, hp2⟩
  obtain ⟨a3, ha⟩ : ∃ a, a = pNum 4 a2.2 := ⟨_, rfl⟩
  rw [← ha] at H8 hp2 ⊢
  have A3 := Hid.mk' ha
  clear ha H7 hp1
  obtain ⟨l8, n8, c8, z8⟩ := Holds.facts (H8.swap)
  go_upto_region 13 with fail
  have H7 := (H8.swap.set 3 (.int .i64 ((a3.1 : Nat) : Int))).swap
  replace H7 : Holds _ R3 (star (blk g9 #[.slice (some ⟨bp, op, none⟩) 60 c2, .int .i64 (at3 : Int), .bool a3.2.2] tR6) (star (blk g10 #[.int .i64 (x1.toNat : Int), .string nm, .int .i64 ((a2.1 : Nat) : Int), .int .i64 ((a3.1 : Nat) : Int), .int .i64 0, .int .i64 0, .slice none 0 0] tRec) (star (blk z zeroRec tRec) L))) := H7
  clear H8 l8 n8 c8 z8
  generalize (World.setCell ..) = w9 at H7 ⊢
  have hp1 := hp2
  clear hp2
  go_wp2_with fail
  refine (rr_num (s := a3.2) (k := 4) (at_ := at3) (by decide) H7 HR1.out hp1 HL1.out).mono ?_
  rintro e w8 ⟨at4, rfl, H8, hp2⟩
  obtain ⟨a4, ha⟩ : ∃ a, a = pNum 4 a3.2 := ⟨_, rfl⟩
  rw [← ha] at H8 hp2 ⊢
  have A4 := Hid.mk' ha
  clear ha H7 hp1
  obtain ⟨l8, n8, c8, z8⟩ := Holds.facts (H8.swap)
  go_upto_region 14 with fail
  have H7 := (H8.swap.set 4 (.int .i64 ((a4.1 : Nat) : Int))).swap
  replace H7 : Holds _ R3 (star (blk g9 #[.slice (some ⟨bp, op, none⟩) 60 c2, .int .i64 (at4 : Int), .bool a4.2.2] tR6) (star (blk g10 #[.int .i64 (x1.toNat : Int), .string nm, .int .i64 ((a2.1 : Nat) : Int), .int .i64 ((a3.1 : Nat) : Int), .int .i64 ((a4.1 : Nat) : Int), .int .i64 0, .slice none 0 0] tRec) (star (blk z zeroRec tRec) L))) := H7
  clear H8 l8 n8 c8 z8
  generalize (World.setCell ..) = w9 at H7 ⊢
  have hp1 := hp2
  clear hp2
  go_wp2_with fail
  refine (rr_num (s := a4.2) (k := 2) (at_ := at4) (by decide) H7 HR1.out hp1 HL1.out).mono ?_
  rintro e w8 ⟨at5, rfl, H8, hp2⟩
  obtain ⟨a5, ha⟩ : ∃ a, a = pNum 2 a4.2 := ⟨_, rfl⟩
  rw [← ha] at H8 hp2 ⊢
  have A5 := Hid.mk' ha
  clear ha H7 hp1
  obtain ⟨l8, n8, c8, z8⟩ := Holds.facts (H8.swap)
  go_upto_region 15 with fail
  have H7 := (H8.swap.set 5 (.int .i64 ((a5.1 : Nat) : Int))).swap
  replace H7 : Holds _ R3 (star (blk g9 #[.slice (some ⟨bp, op, none⟩) 60 c2, .int .i64 (at5 : Int), .bool a5.2.2] tR6) (star (blk g10 #[.int .i64 (x1.toNat : Int), .string nm, .int .i64 ((a2.1 : Nat) : Int), .int .i64 ((a3.1 : Nat) : Int), .int .i64 ((a4.1 : Nat) : Int), .int .i64 ((a5.1 : Nat) : Int), .slice none 0 0] tRec) (star (blk z zeroRec tRec) L))) := H7
  clear H8 l8 n8 c8 z8
  generalize (World.setCell ..) = w9 at H7 ⊢
  have hp1 := hp2
  clear hp2
  go_wp2_with fail
  refine (rr_num (s := a5.2) (k := 1) (at_ := at5) (by decide) H7 HR1.out hp1 HL1.out).mono ?_
  rintro e w8 ⟨at6, rfl, H8, hp2⟩
  obtain ⟨a6, ha⟩ : ∃ a, a = pNum 1 a5.2 := ⟨_, rfl⟩
  rw [← ha] at H8 hp2 ⊢
  have A6 := Hid.mk' ha
  clear ha H7 hp1
  obtain ⟨lg, hlg⟩ : ∃ lg, lg = a6.1 := ⟨_, rfl⟩
  rw [← hlg]
  have hlg255 : lg < 256 := by rw [hlg, A6.out]; exact pNum1_lt a5.2
  have H9 : Holds w8 R3 (star (blk g10 #[.int .i64 (x1.toNat : Int), .string nm, .int .i64 ((a2.1 : Nat) : Int), .int .i64 ((a3.1 : Nat) : Int), .int .i64 ((a4.1 : Nat) : Int), .int .i64 ((a5.1 : Nat) : Int), .slice none 0 0] tRec) (star (rowB (.slice none 0 0) []) (star (blk z zeroRec tRec) L))) := (H8.drop.nilRow tU8 1).swap
  obtain ⟨e1, he1⟩ : ∃ e : Int, e = (x1.toNat : Int) := ⟨_, rfl⟩
  obtain ⟨e2, he2⟩ : ∃ e : Int, e = ((a2.1 : Nat) : Int) := ⟨_, rfl⟩
  obtain ⟨e3, he3⟩ : ∃ e : Int, e = ((a3.1 : Nat) : Int) := ⟨_, rfl⟩
  obtain ⟨e4, he4⟩ : ∃ e : Int, e = ((a4.1 : Nat) : Int) := ⟨_, rfl⟩
  obtain ⟨e5, he5⟩ : ∃ e : Int, e = ((a5.1 : Nat) : Int) := ⟨_, rfl⟩
  have hsay : ∀ r : Rc, rcOk r = true → putR r <+: bss → e1 = r.kind ∧ nm = r.name ∧ e2 = r.attempt ∧ e3 = r.epoch ∧ e4 = r.mark ∧ e5 = r.size ∧ lg = r.share.length := fun r h1 h2 => by
    obtain ⟨s1, s2, s3, s4, s5, s6, s7⟩ := head_rparse h1 (HHD.out r h1 h2) A2.out A3.out A4.out A5.out A6.out
    rw [← HX1.out] at s1
    exact ⟨by rw [he1, s1], (HNC.out r.name (rcOk_bounds h1).1 s2).1, by rw [he2, s3], by rw [he3, s4], by rw [he4, s5], by rw [he5, s6], by rw [hlg, s7]⟩
  rw [← he1, ← he2, ← he3, ← he4, ← he5] at H9
  have HSAY := Hid.mk' hsay
  clear H8 hp2 hlg hsay he1 he2 he3 he4 he5 A2 A3 A4 A5 A6 HX1 HNC HHD hx1'
  go_wp2_with fail
  go_loopw [12] (fun i wx => ∃ (j q : Nat) (T : List UInt8) (vT : Value), i = .int .i64 (q : Int) ∧ q = j + 1 ∧ q ≤ N ∧ T.length ≤ 48 * j ∧ Hid (∀ r : Rc, rcOk r = true → putR r <+: bss → T = r.share.take (j * 48) ∧ j ≤ bodiesN r.share.length) ∧ Holds wx R3 (star (blk g10 #[.int .i64 e1, .string nm, .int .i64 e2, .int .i64 e3, .int .i64 e4, .int .i64 e5, vT] tRec) (star (rowB vT T) (star (blk z zeroRec tRec) L)))) (fun i _ => N + 1 - (intOf i).toNat)
  case atStart => exact ⟨0, 1, [], _, rfl, rfl, i2, by simp, Hid.mk' (fun r _ _ => ⟨by simp, Nat.zero_le _⟩), H9⟩
  case round =>
    clear H9
    obtain ⟨j, q, T, vT, rfl, hq, hqN, hTl, hI, H10⟩ := hrel
    obtain ⟨aT, cT, rfl⟩ := H10.swap.rowRd.form
    obtain ⟨tn_, htn⟩ : ∃ n, n = T.length := ⟨_, rfl⟩
    rw [← htn] at H10 hTl
    have HTN := Hid.mk' htn
    have HQJ := Hid.mk' hq
    clear htn hq
    obtain ⟨l9, n9, c9, z9⟩ := Holds.facts (H10)
    by_cases hlt : q < N
    · have d1 : decide ((q : Int) < (N : Int)) = true := by simp; omega
      have d1n : decide (q < N) = true := by simp; omega
      by_cases hls : tn_ < lg
      · have d2 : decide ((tn_ : Int) < (lg : Int)) = true := by simp; omega
        have d2n : decide (tn_ < lg) = true := by simp; omega
        have hqs : q < (((Value.slice a0 b0.length c0, b0) : Value × List UInt8) :: tl).length := by rw [← HN.out]; exact hlt
        obtain ⟨b2, o2, ha2, hc2, hq2⟩ := RdBB.at HR.out hqs
        simp only [Option.some.injEq, Addr.mk.injEq, and_true] at ha2
        obtain ⟨rfl, rfl⟩ := ha2
        have hly := HLN.out _ (List.getElem_mem hqs)
        have gy : bss[q]? = some ((((Value.slice a0 b0.length c0, b0) : Value × List UInt8) :: tl)[q]).2 := by rw [HBS.out, List.getElem?_map, List.getElem?_eq_getElem hqs]; rfl
        generalize ((((Value.slice a0 b0.length c0, b0) : Value × List UInt8) :: tl)[q]) = xy at *
        obtain ⟨vy, y⟩ := xy
        simp only at hc2 hq2 hly gy
        obtain ⟨ay, cy, rfl⟩ := hq2.form
        replace hc2 := H10.cell (le3.cell hc2)
        have HQ2 := Hid.mk' (Rd.le hq2 le3)
        have hlaw : ∀ r : Rc, rcOk r = true → putR r <+: bss → openOk y = true ∧ ((openP y).getD 11 0).toNat ≤ 48 ∧ ((openP y).getD 11 0).toNat ≠ 0 ∧ T ++ ((openP y).drop 12).take ((openP y).getD 11 0).toNat = r.share.take ((j + 1) * 48) ∧ j + 1 ≤ bodiesN r.share.length := fun r h1 h2 => by
          have h3 := (HSAY.out r h1 h2).2.2.2.2.2.2
          exact round_law h1 h2 (hI.out r h1 h2).1 (by rw [← HTN.out, ← h3]; exact hls) (by rw [← HQJ.out]; exact gy)
        have HLAW := Hid.mk' hlaw
        have j1 : (0 : Int) ≤ (q : Int) := by omega
        have j2 : (q : Int) < (N : Int) := by omega
        clear hq2 gy hlaw hqs hly hls
        go_wp2_with fail
        refine (rsopen_spec H10 HQ2.out).mono ?_
        rintro e w11 ⟨o11, rfl, H11⟩
        clear H10 l9 n9 c9 z9 hc2
        obtain ⟨oky, hoy⟩ : ∃ b, openOk y = b := ⟨_, rfl⟩
        rw [hoy] at HLAW ⊢
        have HOY := Hid.mk' hoy
        clear hoy
        cases oky with
        | false =>
          obtain ⟨l88, n88, c88, z88⟩ := Holds.facts (H11.drop.pick3)
          go_wp2_with fail
          have H13 := Holds.blkFull (H11.drop.pick3) [.int .i64 0, .string ⟨#[]⟩, .int .i64 0, .int .i64 0, .int .i64 0, .int .i64 0, .slice none 0 0] rfl
          clear l88 n88 c88 z88
          generalize hw9 : World.setCell .. = w13
          replace H13 := Holds.at hw9 H13
          clear hw9
          refine bodyPost_ret (results_cell3 rfl _ _ z tRec _ (0, 0) _ rfl H13.blkAt Try.underlying108 rfl (by kernel_rfl)) rfl ?_
          exact HK.out R zeroRc 0 false _ (Snap.le.refl _) (.inr ⟨rfl, rfl, rfl, fun r h1 h2 => by
            have := (HLAW.out r h1 h2).1
            cases this⟩) Rd.nil ZSZ.out (H13.drop.drop.drop.weaken leA)
        | true =>
          obtain ⟨R12, le12, H12, hr12⟩ := H11.freezeRow
          have hpy := openOk_len HOY.out
          obtain ⟨py, hpy2⟩ : ∃ py, py = openP y := ⟨_, rfl⟩
          replace hr12 : RdB R12.cell? o11 (openP y) := hr12
          rw [← hpy2] at hr12 hpy HLAW
          obtain ⟨a12, c12, rfl⟩ := hr12.form
          have hc12 := (Rd.bounds hr12).1
          rw [hpy] at hc12
          obtain ⟨bq, oq, rfl, hcell⟩ := RdB.open hr12 (by omega)
          obtain ⟨x, hx⟩ : ∃ x, x = py.getD 11 0 := ⟨_, rfl⟩
          rw [← hx] at HLAW
          obtain ⟨n, hn⟩ : ∃ n, n = x.toNat := ⟨_, rfl⟩
          have hn255 : n < 256 := by rw [hn]; exact x.toNat_lt
          have c11 : R12.cell? ⟨bq, oq + 11, none⟩ = some (.int .u8 (n : Int)) := by
            rw [hcell 11 (by omega), hn, hx, List.getD_eq_getElem?_getD, List.getElem?_eq_getElem (by omega)]; rfl
          rw [← hn] at HLAW
          have HRD := Hid.mk' hr12
          have C11 := Hid.mk' c11
          have HPY := Hid.mk' hpy
          have cc11 := H12.cell c11
          simp only [hpy]
          clear HOY hpy2 hcell hx hn c11 hr12 hpy H11
          obtain ⟨l9, n9, c9, z9⟩ := Holds.facts (H12)
          by_cases h48 : 48 < n
          · have t48 : decide ((48 : Int) < (n : Int)) = true := by simp; omega
            have t48n : decide (48 < n) = true := by simp; omega
            obtain ⟨l88, n88, c88, z88⟩ := Holds.facts (H12.pick3)
            go_wp2_with fail
            have H13 := Holds.blkFull (H12.pick3) [.int .i64 0, .string ⟨#[]⟩, .int .i64 0, .int .i64 0, .int .i64 0, .int .i64 0, .slice none 0 0] rfl
            clear l88 n88 c88 z88
            generalize hw9 : World.setCell .. = w13
            replace H13 := Holds.at hw9 H13
            clear hw9
            refine bodyPost_ret (results_cell3 rfl _ _ z tRec _ (0, 0) _ rfl H13.blkAt Try.underlying108 rfl (by kernel_rfl)) rfl ?_
            exact HK.out R zeroRc 0 false _ (Snap.le.refl _) (.inr ⟨rfl, rfl, rfl, fun r h1 h2 => by
              have := (HLAW.out r h1 h2).2.1
              omega⟩) Rd.nil ZSZ.out (H13.drop.drop.drop.weaken (leA.trans le12))
          · have t48 : decide ((48 : Int) < (n : Int)) = false := by simp; omega
            have t48n : decide (48 < n) = false := by simp; omega
            obtain ⟨m, hm⟩ : ∃ m, m = 12 + n := ⟨_, rfl⟩
            have hw1 : (12 : Int) + (n : Int) = (m : Int) := by omega
            have hw2 : IntKind.i64.wrap (m : Int) = (m : Int) := IntWalk.i64_in _ (by omega)
            have hw3 : m - 12 = n := by omega
            have hw4 : IntKind.i64.wrap ((12 : Int) + (n : Int)) = (m : Int) := by rw [hw1, hw2]
            have hw5 : IntKind.i64.wrap (n : Int) = (n : Int) := IntWalk.i64_in _ (by omega)
            have k1 : (12 : Int) ≤ (m : Int) := by omega
            have k2 : (m : Int) ≤ (c12 : Int) := by omega
            have hsub := RdB.sub HRD.out 12 m c12 (by omega) (by rw [HPY.out]; omega) (by omega) (Nat.le_refl _)
            rw [hw3] at hsub
            obtain ⟨P, hP⟩ : ∃ P, P = (py.drop 12).take n := ⟨_, rfl⟩
            rw [← hP] at hsub HLAW
            have hPl : P.length = n := by rw [hP, List.length_take, List.length_drop, HPY.out]; omega
            have hln : T.length + P.length ≤ 100000000 := by have := HQJ.out; rw [hPl, ← HTN.out]; omega
            have HSUB2 := Hid.mk' hsub
            have HPL := Hid.mk' hPl
            have Ha := H12.swap.drew
            have hra := Rd.world HSUB2.out Ha
            clear hsub hP hPl hm
            go_upto_region 22 with fail
            go_region_law ((refine step_appendB rfl _ _ (by rfl) (by rfl) (by rfl) Ha hra hln ?_; intro v24 w24 H24; obtain ⟨a24, c24, rfl⟩ := H24.rowRd.form; rw [List.length_append] at H24; obtain ⟨l7, n7, c7, z7⟩ := Holds.facts H24.swap))
            all_goals
              have H25 := H24.swap.set 6 (.slice a24 (T.length + P.length) c24)
              replace H25 : Holds _ R12 (star (blk g10 #[.int .i64 e1, .string nm, .int .i64 e2, .int .i64 e3, .int .i64 e4, .int .i64 e5, .slice a24 (T.length + P.length) c24] tRec) (star (rowB (.slice a24 (T.length + P.length) c24) (T ++ P)) (star (blk z zeroRec tRec) L))) := H25
              clear l7 n7 c7 z7 H24 l9 n9 c9 z9 H12 Ha hra cc11
              generalize (World.setCell ..) = w25 at H25 ⊢
              have cc25 := H25.cell C11.out
              by_cases hn0 : n = 0
              · have t0n : ((n : Int) == 0) = true := by rw [beq_iff_eq]; omega
                obtain ⟨l88, n88, c88, z88⟩ := Holds.facts (H25.pick3)
                go_wp2_with fail
                have H13 := Holds.blkFull (H25.pick3) [.int .i64 0, .string ⟨#[]⟩, .int .i64 0, .int .i64 0, .int .i64 0, .int .i64 0, .slice none 0 0] rfl
                clear l88 n88 c88 z88
                generalize hw9 : World.setCell .. = w13
                replace H13 := Holds.at hw9 H13
                clear hw9
                refine bodyPost_ret (results_cell3 rfl _ _ z tRec _ (0, 0) _ rfl H13.blkAt Try.underlying108 rfl (by kernel_rfl)) rfl ?_
                exact HK.out R zeroRc 0 false _ (Snap.le.refl _) (.inr ⟨rfl, rfl, rfl, fun r h1 h2 => absurd hn0 (HLAW.out r h1 h2).2.2.1⟩) Rd.nil ZSZ.out (H13.drop.drop.drop.weaken (leA.trans le12))
              · have t0n : ((n : Int) == 0) = false := by rw [beq_eq_false_iff_ne]; omega
                have HN0 := Hid.mk' hn0
                clear hn0
                go_wp2_with fail
                go_roundw
                case rel =>
                  exact ⟨j + 1, q + 1, T ++ P, _, by go_num, by have := HQJ.out; omega, hlt, by rw [List.length_append, HPL.out, ← HTN.out]; omega, Hid.mk' (fun r h1 h2 => ⟨(HLAW.out r h1 h2).2.2.2.1, (HLAW.out r h1 h2).2.2.2.2⟩), H25.weaken le12⟩
                case measure => simp [intOf]; omega
      · have d2 : decide ((tn_ : Int) < (lg : Int)) = false := by simp; omega
        have d2n : decide (tn_ < lg) = false := by simp; omega
        have HEND : Hid (∀ r : Rc, rcOk r = true → putR r <+: bss → T = r.share) := Hid.mk' (fun r h1 h2 => by
          have h3 := (HSAY.out r h1 h2).2.2.2.2.2.2
          obtain ⟨h4, h5⟩ := hI.out r h1 h2
          have h6 := HTN.out
          have h7 := HQJ.out
          have h8 := h2.length_le
          rw [putR_len, HBS.out, List.length_map, ← HN.out] at h8
          rw [h4, List.take_of_length_le]
          have h9 := congrArg List.length h4
          rw [List.length_take] at h9
          unfold bodiesN at h5 h8
          omega)
        obtain ⟨R6, le6, H11, hr6⟩ := H10.swap.freezeRow
        replace leA := leA.trans le6
        obtain ⟨M, hMM⟩ : ∃ M : Rc, M = ⟨e1, nm, e2, e3, e4, e5, .slice aT tn_ cT, T⟩ := ⟨_, rfl⟩
        have hMR : M.Rd R6.cell? := by rw [hMM]; exact hr6
        have hMZ : M.Sz := by rw [hMM]; exact ⟨by show nm.size ≤ maxLen; simp only [maxLen]; omega, by show T.length ≤ 1000000; have := HTN.out; have := HQJ.out; omega⟩
        have hMC : ∀ r : Rc, rcOk r = true → putR r <+: bss → M.con = r.con := fun r h1 h2 => by
          obtain ⟨s1, s2, s3, s4, s5, s6, s7⟩ := HSAY.out r h1 h2
          rw [hMM]
          simp only [Rc.con, Prod.mk.injEq, List.cons.injEq, and_true]
          exact ⟨⟨s1, s3, s4, s5, s6⟩, s2, HEND.out r h1 h2⟩
        have HCL := Hid.mk' (show (Value.agg #[.int .i64 e1, .string nm, .int .i64 e2, .int .i64 e3, .int .i64 e4, .int .i64 e5, .slice aT tn_ cT]) = .agg M.cells.toArray by rw [hMM]; rfl)
        have HMR := Hid.mk' hMR
        have HMZ := Hid.mk' hMZ
        have HMC := Hid.mk' hMC
        clear H10 l9 n9 c9 z9 hr6 hMM hMR hMZ hMC HEND hI
        obtain ⟨l9, n9, c9, z9⟩ := Holds.facts (H11)
        go_wp2_with fail
        rw [HCL.out]
        refine (rrecAre_spec M H11 (by have h := HR.out.le leA; rw [← HN.out] at h; exact h) HLN.out HMR.out HMZ.out).mono ?_
        rintro e w12 ⟨rfl, H12⟩
        rw [← HBS.out]
        obtain ⟨y, hy⟩ : ∃ y, decide (rcOk M = true ∧ putR M <+: bss) = y := ⟨_, rfl⟩
        rw [hy]
        have HY := Hid.mk' hy
        clear H11 l9 n9 c9 z9 hy
        cases y with
        | false =>
          obtain ⟨l88, n88, c88, z88⟩ := Holds.facts (H12.swap)
          go_wp2_with fail
          have H13 := Holds.blkFull (H12.swap) [.int .i64 0, .string ⟨#[]⟩, .int .i64 0, .int .i64 0, .int .i64 0, .int .i64 0, .slice none 0 0] rfl
          clear l88 n88 c88 z88
          generalize hw9 : World.setCell .. = w13
          replace H13 := Holds.at hw9 H13
          clear hw9
          refine bodyPost_ret (results_cell3 rfl _ _ z tRec _ (0, 0) _ rfl H13.blkAt Try.underlying108 rfl (by kernel_rfl)) rfl ?_
          exact HK.out R zeroRc 0 false _ (Snap.le.refl _) (.inr ⟨rfl, rfl, rfl, fun r h1 h2 => by
            have h3 := HMC.out r h1 h2
            have h4 := of_decide_eq_false HY.out
            exact h4 ⟨(rcOk_con h3).trans h1, by rw [putR_con h3]; exact h2⟩⟩) Rd.nil ZSZ.out (H13.drop.drop.weaken leA)
        | true =>
          obtain ⟨l9, n9, c9, z9⟩ := Holds.facts (H12)
          obtain ⟨l98, n98, c98, z98⟩ := Holds.facts (H12.swap)
          obtain ⟨s1, s2⟩ := Holds.apart H12
          go_upto_region 27 with fail
          go_region_law ((go_simp; go_at_call 84; rw [HCL.out]; refine (rrecCount_spec M H12.drew HMR.out HMZ.out).mono ?_; rintro e w14 ⟨rfl, H14⟩; rw [← HCL.out]; obtain ⟨l6, n6, c6, z6⟩ := Holds.facts H14; obtain ⟨l7, n7, c7, z7⟩ := Holds.facts H14.swap))
          all_goals
            clear l9 n9 c9 z9 l98 n98 c98 z98
            go_wp2_with fail
            have H13 := H14.swap.blkFull [.int .i64 e1, .string nm, .int .i64 e2, .int .i64 e3, .int .i64 e4, .int .i64 e5, .slice aT tn_ cT] rfl
            clear l6 n6 c6 z6 l7 n7 c7 z7 H14
            generalize hw9 : World.setCell .. = w13
            replace H13 := Holds.at hw9 H13
            clear hw9
            refine bodyPost_ret (results_cell3 rfl _ _ z tRec _ (0, 0) _ rfl H13.blkAt Try.underlying108 rfl (by kernel_rfl)) rfl ?_
            obtain ⟨m1, m2⟩ := of_decide_eq_true HY.out
            have hfin := HK.out R6 M (putR M).length true _ leA (.inl ⟨rfl, m1, m2, rfl⟩) HMR.out HMZ.out H13.drop.drop
            rw [← HCL.out] at hfin
            exact hfin
    · have d1 : decide ((q : Int) < (N : Int)) = false := by simp; omega
      have d1n : decide (q < N) = false := by simp; omega
      have HEND : Hid (∀ r : Rc, rcOk r = true → putR r <+: bss → T = r.share) := Hid.mk' (fun r h1 h2 => by
        have h3 := (HSAY.out r h1 h2).2.2.2.2.2.2
        obtain ⟨h4, h5⟩ := hI.out r h1 h2
        have h6 := HTN.out
        have h7 := HQJ.out
        have h8 := h2.length_le
        rw [putR_len, HBS.out, List.length_map, ← HN.out] at h8
        rw [h4, List.take_of_length_le]
        have h9 := congrArg List.length h4
        rw [List.length_take] at h9
        unfold bodiesN at h5 h8
        omega)
      obtain ⟨R6, le6, H11, hr6⟩ := H10.swap.freezeRow
      replace leA := leA.trans le6
      obtain ⟨M, hMM⟩ : ∃ M : Rc, M = ⟨e1, nm, e2, e3, e4, e5, .slice aT tn_ cT, T⟩ := ⟨_, rfl⟩
      have hMR : M.Rd R6.cell? := by rw [hMM]; exact hr6
      have hMZ : M.Sz := by rw [hMM]; exact ⟨by show nm.size ≤ maxLen; simp only [maxLen]; omega, by show T.length ≤ 1000000; have := HTN.out; have := HQJ.out; omega⟩
      have hMC : ∀ r : Rc, rcOk r = true → putR r <+: bss → M.con = r.con := fun r h1 h2 => by
        obtain ⟨s1, s2, s3, s4, s5, s6, s7⟩ := HSAY.out r h1 h2
        rw [hMM]
        simp only [Rc.con, Prod.mk.injEq, List.cons.injEq, and_true]
        exact ⟨⟨s1, s3, s4, s5, s6⟩, s2, HEND.out r h1 h2⟩
      have HCL := Hid.mk' (show (Value.agg #[.int .i64 e1, .string nm, .int .i64 e2, .int .i64 e3, .int .i64 e4, .int .i64 e5, .slice aT tn_ cT]) = .agg M.cells.toArray by rw [hMM]; rfl)
      have HMR := Hid.mk' hMR
      have HMZ := Hid.mk' hMZ
      have HMC := Hid.mk' hMC
      clear H10 l9 n9 c9 z9 hr6 hMM hMR hMZ hMC HEND hI
      obtain ⟨l9, n9, c9, z9⟩ := Holds.facts (H11)
      go_wp2_with fail
      rw [HCL.out]
      refine (rrecAre_spec M H11 (by have h := HR.out.le leA; rw [← HN.out] at h; exact h) HLN.out HMR.out HMZ.out).mono ?_
      rintro e w12 ⟨rfl, H12⟩
      rw [← HBS.out]
      obtain ⟨y, hy⟩ : ∃ y, decide (rcOk M = true ∧ putR M <+: bss) = y := ⟨_, rfl⟩
      rw [hy]
      have HY := Hid.mk' hy
      clear H11 l9 n9 c9 z9 hy
      cases y with
      | false =>
        obtain ⟨l88, n88, c88, z88⟩ := Holds.facts (H12.swap)
        go_wp2_with fail
        have H13 := Holds.blkFull (H12.swap) [.int .i64 0, .string ⟨#[]⟩, .int .i64 0, .int .i64 0, .int .i64 0, .int .i64 0, .slice none 0 0] rfl
        clear l88 n88 c88 z88
        generalize hw9 : World.setCell .. = w13
        replace H13 := Holds.at hw9 H13
        clear hw9
        refine bodyPost_ret (results_cell3 rfl _ _ z tRec _ (0, 0) _ rfl H13.blkAt Try.underlying108 rfl (by kernel_rfl)) rfl ?_
        exact HK.out R zeroRc 0 false _ (Snap.le.refl _) (.inr ⟨rfl, rfl, rfl, fun r h1 h2 => by
          have h3 := HMC.out r h1 h2
          have h4 := of_decide_eq_false HY.out
          exact h4 ⟨(rcOk_con h3).trans h1, by rw [putR_con h3]; exact h2⟩⟩) Rd.nil ZSZ.out (H13.drop.drop.weaken leA)
      | true =>
        obtain ⟨l9, n9, c9, z9⟩ := Holds.facts (H12)
        obtain ⟨l98, n98, c98, z98⟩ := Holds.facts (H12.swap)
        obtain ⟨s1, s2⟩ := Holds.apart H12
        go_upto_region 27 with fail
        go_region_law ((go_simp; go_at_call 84; rw [HCL.out]; refine (rrecCount_spec M H12.drew HMR.out HMZ.out).mono ?_; rintro e w14 ⟨rfl, H14⟩; rw [← HCL.out]; obtain ⟨l6, n6, c6, z6⟩ := Holds.facts H14; obtain ⟨l7, n7, c7, z7⟩ := Holds.facts H14.swap))
        all_goals
          clear l9 n9 c9 z9 l98 n98 c98 z98
          go_wp2_with fail
          have H13 := H14.swap.blkFull [.int .i64 e1, .string nm, .int .i64 e2, .int .i64 e3, .int .i64 e4, .int .i64 e5, .slice aT tn_ cT] rfl
          clear l6 n6 c6 z6 l7 n7 c7 z7 H14
          generalize hw9 : World.setCell .. = w13
          replace H13 := Holds.at hw9 H13
          clear hw9
          refine bodyPost_ret (results_cell3 rfl _ _ z tRec _ (0, 0) _ rfl H13.blkAt Try.underlying108 rfl (by kernel_rfl)) rfl ?_
          obtain ⟨m1, m2⟩ := of_decide_eq_true HY.out
          have hfin := HK.out R6 M (putR M).length true _ leA (.inl ⟨rfl, m1, m2, rfl⟩) HMR.out HMZ.out H13.drop.drop
          rw [← HCL.out] at hfin
          exact hfin
end Sh
/- How sectors read as an argument. -/
set_option linter.unusedVariables false
set_option linter.unusedSimpArgs false
namespace Sh
open Go Go.RowKit Go.Proofs
instance : Inhabited (Value × List UInt8) := ⟨(.slice none 0 0, [])⟩
theorem read_sec {H : Type} {enc : TypeId × Value → H} {w : World} {base : Nat} {spare : Nat → Bool} {held : Bool} {fuel : Nat} {cs : List Value} {x : DataW H × List MemPlace} (h : DataW.trod enc Try.prog w base spare held fuel 22 cs = some x) :
    ∃ q : Value × List UInt8, cs = [q.1] ∧ RdB w.cell? q.1 q.2 := by
  obtain ⟨v, l, h1, h2⟩ := read_bytes Try.underlying22 Try.underlying5 (by kernel_rfl) h
  exact ⟨(v, l), h1, h2⟩
theorem secs_of {c : Addr → Option Value} {v : Value} {ss : List (Value × List UInt8)} (h : Rd c 1 v ss.length (ss.flatMap fun q => [q.1])) (hg : ∀ q ∈ ss, RdB c q.1 q.2) : RdBB c v ss := by
  rw [flat_single] at h
  exact ⟨h, hg⟩
end Sh
/- RecordGets: the walk. -/
set_option linter.unusedVariables false
set_option linter.unusedSimpArgs false
namespace Sh
open Go Go.RowKit Go.Proofs
attribute [local go_sem ↓] Go.wp_at_zero Go.wp_at_succ
set_option maxHeartbeats 1000000
set_option maxRecDepth 100000

set_option maxHeartbeats 8000000
theorem recordGets_walk (W : World) {v : Value} {ss : List (Value × List UInt8)} (h1 : Rd W.cell? 1 v ss.length (ss.flatMap fun q => [q.1])) (h2 : ∀ q ∈ ss, RdB W.cell? q.1 q.2) :
    Calls Try.prog 16 #[v] W fun e w' => e = .returned (.bool true) ∧ Below W.heap.size W w' := by
  have hr : RdBB (Snap.of W).cell? v ss := secs_of h1 h2
  clear h1 h2
  obtain ⟨a, c, rfl⟩ := hr.form
  obtain ⟨N, hN⟩ : ∃ N, N = ss.length := ⟨_, rfl⟩
  have HR := Hid.mk' hr
  have HN := Hid.mk' hN
  have hmx := Rd.max hr.1
  unfold maxLen at hmx
  have hB := hr.bounds
  rw [← hN] at hmx hB ⊢
  obtain ⟨hB1, hB2⟩ := hB
  have H := Holds.start W
  obtain ⟨g0, hg⟩ : ∃ g0, W.heap.size = g0 := ⟨_, rfl⟩
  rw [hg]
  clear hr hN
  go_enter Try.func16, Try.ntmps16
  go_upto_region 1 with fail
  by_cases h12 : 12 < N
  · have t1 : decide ((12 : Int) < (N : Int)) = true := by simp; omega
    have t1n : decide (12 < N) = true := by simp; omega
    go_wp2_with fail
    refine (alive20 H celly_emp).mono ?_
    rintro e w99 ⟨rfl, H99⟩
    go_wp2_with fail
    go_ret
    exact ⟨rfl, hg ▸ H99.toBelow (Snap.le.refl _)⟩
  have t1 : decide ((12 : Int) < (N : Int)) = false := by simp; omega
  have t1n : decide (12 < N) = false := by simp; omega
  go_wp2_with fail
  go_loop [17] (fun i => ∃ j : Nat, i = .int .i64 j ∧ j ≤ N ∧ Hid (∀ k (h : k < ss.length), k < j → ss[k].2.length ≤ 100)) (fun i => N - (intOf i).toNat)
  case atStart => exact ⟨0, rfl, Nat.zero_le _, Hid.mk' (fun k _ h => absurd h (Nat.not_lt_zero k))⟩
  case round =>
    obtain ⟨j, rfl, hj, hA⟩ := hrel
    by_cases hlt : j < N
    · have d1 : decide ((j : Int) < (N : Int)) = true := by simp; omega
      have hjs : j < ss.length := by rw [← HN.out]; exact hlt
      obtain ⟨b2, o2, ha2, hc2, hq2⟩ := RdBB.at HR.out hjs
      subst ha2
      replace hc2 := H.cell hc2
      obtain ⟨v2, hv2⟩ : ∃ v, v = ss[j].1 := ⟨_, rfl⟩
      rw [← hv2] at hc2 hq2
      obtain ⟨av2, cv2, rfl⟩ := hq2.form
      obtain ⟨l2, hl2⟩ : ∃ l, l = ss[j].2.length := ⟨_, rfl⟩
      rw [← hl2] at hc2
      have HL2 := Hid.mk' hl2
      have i5 : (0 : Int) ≤ (j : Int) := by omega
      have i6 : (j : Int) < (N : Int) := by omega
      clear hv2 hl2 hq2
      by_cases h100 : 100 < l2
      · have t2 : decide ((100 : Int) < (l2 : Int)) = true := by simp; omega
        have t2n : decide (100 < l2) = true := by simp; omega
        go_wp2_with fail
        refine (alive20 H celly_emp).mono ?_
        rintro e w99 ⟨rfl, H99⟩
        go_wp2_with fail
        go_ret
        exact ⟨rfl, hg ▸ H99.toBelow (Snap.le.refl _)⟩
      have t2 : decide ((100 : Int) < (l2 : Int)) = false := by simp; omega
      have t2n : decide (100 < l2) = false := by simp; omega
      go_wp2_with fail
      go_round
      case rel =>
        refine ⟨j + 1, by go_num, hlt, Hid.mk' (fun k h h2 => ?_)⟩
        rcases Nat.lt_or_ge k j with h3 | h3
        · exact hA.out k h h3
        · obtain rfl : k = j := by omega
          rw [← HL2.out]; omega
      case measure => simp [intOf]; omega
    · have d1 : decide ((j : Int) < (N : Int)) = false := by simp; omega
      obtain rfl : j = N := by omega
      have HLN : Hid (∀ x ∈ ss, x.2.length ≤ 1000000) := Hid.mk' (fun x hx => by
        obtain ⟨k, hk, rfl⟩ := List.mem_iff_getElem.1 hx
        have := hA.out k hk (by rw [HN.out]; exact hk)
        omega)
      have HSL : Hid (ss.length ≤ 1000) := Hid.mk' (by rw [← HN.out]; omega)
      have HRN : Hid (RdBB (Snap.of W).cell? (.slice a j c) ss) := Hid.mk' (by have h := HR.out; rw [← HN.out] at h; exact h)
      clear hA t1 t1n h12 d1 HR
      go_wp2_with fail
      refine (new_crc H).mono ?_
      rintro e w9 ⟨p, rfl, H9⟩
      obtain ⟨R3, le3, H10, hT⟩ := H9.freezeBlk
      have leA := le3
      clear H9 le3
      go_wp2_with fail
      refine recGet_spec H10 celly_emp hT (HRN.out.le leA) HSL.out ?_
      intro R5 M n ok w11 le5 hG hMR hMZ H11
      replace leA := leA.trans le5
      have HG := Hid.mk' hG
      have HMR := Hid.mk' hMR
      have HMZ := Hid.mk' hMZ
      clear H10 hT hG le5
      obtain ⟨kind, name, attempt, epoch, mark, size, vs, share⟩ := M
      obtain ⟨z1, z2⟩ := hMZ
      have hs := hMR
      simp only [Rc.Rd] at z1 z2 hs
      obtain ⟨as_, cs_, rfl⟩ := hs.form
      have hcl : ((⟨kind, name, attempt, epoch, mark, size, .slice as_ share.length cs_, share⟩ : Rc)).cells = [.int .i64 kind, .string name, .int .i64 attempt, .int .i64 epoch, .int .i64 mark, .int .i64 size, .slice as_ share.length cs_] := rfl
      simp only [hcl]
      obtain ⟨R6, le6, H12, hb1⟩ := H11.allocR (.cells #[.int .i64 kind, .string name, .int .i64 attempt, .int .i64 epoch, .int .i64 mark, .int .i64 size, .slice as_ share.length cs_] tRec (0, 0))
      replace leA := leA.trans le6
      replace HMR := Hid.mk' (HMR.out.le le6)
      clear hs hMR z1 z2 hcl H11 le6
      go_upto_region 10 with fail
      generalize (World.alloc ..) = w12 at H12 ⊢
      generalize w11.heap.size = g at hb1 ⊢
      go_wp2_with fail
      refine rrecGet_spec H12 (HRN.out.le leA) HSL.out HLN.out ?_
      intro R7 M2 m ok2 w13 le7 hG2 hMR2 hMZ2 H13
      replace leA := leA.trans le7
      replace HMR := Hid.mk' (HMR.out.le le7)
      replace hb1 := le7.blk _ _ hb1
      have HG2 := Hid.mk' hG2
      have HMR2 := Hid.mk' hMR2
      have HMZ2 := Hid.mk' hMZ2
      clear H12 hG2 le7
      obtain ⟨kind', name', attempt', epoch', mark', size', vs', share'⟩ := M2
      obtain ⟨z3, z4⟩ := hMZ2
      have hs' := hMR2
      simp only [Rc.Rd] at z3 z4 hs'
      obtain ⟨as', cs', rfl⟩ := hs'.form
      have hcl : ((⟨kind', name', attempt', epoch', mark', size', .slice as' share'.length cs', share'⟩ : Rc)).cells = [.int .i64 kind', .string name', .int .i64 attempt', .int .i64 epoch', .int .i64 mark', .int .i64 size', .slice as' share'.length cs'] := rfl
      simp only [hcl]
      obtain ⟨R8, le8, H14, hb2⟩ := H13.allocR (.cells #[.int .i64 kind', .string name', .int .i64 attempt', .int .i64 epoch', .int .i64 mark', .int .i64 size', .slice as' share'.length cs'] tRec (0, 0))
      replace leA := leA.trans le8
      replace HMR := Hid.mk' (HMR.out.le le8)
      replace HMR2 := Hid.mk' (HMR2.out.le le8)
      replace hb1 := le8.blk _ _ hb1
      clear hs' hMR2 z3 z4 hcl H13 le8
      go_upto_region 11 with fail
      generalize (World.alloc ..) = w14 at H14 ⊢
      generalize w13.heap.size = g2 at hb2 ⊢
      obtain ⟨e1, e2, e3⟩ := HG.out.one HG2.out
      have HE1 : Hid (rcSame (⟨kind, name, attempt, epoch, mark, size, .slice as_ share.length cs_, share⟩ : Rc) (⟨kind', name', attempt', epoch', mark', size', .slice as' share'.length cs', share'⟩ : Rc) = true) := Hid.mk' (rcSame_yes e1)
      subst e2 e3
      obtain ⟨l1, n1, c1⟩ := Holds.frzFacts (H14) hb1
      obtain ⟨l2, n2, c2⟩ := Holds.frzFacts (H14) hb2
      cases ok with
      | true =>
        have HD : Hid (decide (rcOk (⟨kind, name, attempt, epoch, mark, size, .slice as_ share.length cs_, share⟩ : Rc) = true ∧ putR (⟨kind, name, attempt, epoch, mark, size, .slice as_ share.length cs_, share⟩ : Rc) <+: ss.map Prod.snd) = true) := Hid.mk' (decide_eq_true (by
          rcases HG.out with ⟨_, h2, h3, _⟩ | ⟨h, _⟩
          · exact ⟨h2, h3⟩
          · cases h))
        go_wp2_with fail
        refine (rrecAre_spec (⟨kind, name, attempt, epoch, mark, size, .slice as_ share.length cs_, share⟩ : Rc) H14 (HRN.out.le leA) HLN.out HMR.out HMZ.out).mono ?_
        rintro e w15 ⟨rfl, H15⟩
        rw [HD.out]
        clear H14 l1 n1 c1 l2 n2 c2
        obtain ⟨l1, n1, c1⟩ := Holds.frzFacts (H15) hb1
        obtain ⟨l2, n2, c2⟩ := Holds.frzFacts (H15) hb2
        go_wp2_with fail
        refine (rrecSame_spec (⟨kind, name, attempt, epoch, mark, size, .slice as_ share.length cs_, share⟩ : Rc) (⟨kind', name', attempt', epoch', mark', size', .slice as' share'.length cs', share'⟩ : Rc) H15 HMR.out HMZ.out HMR2.out HMZ2.out).mono ?_
        rintro e w16 ⟨rfl, H16⟩
        rw [HE1.out]
        clear H15 l1 n1 c1 l2 n2 c2
        go_wp2_with fail
        refine (alive20 H16 celly_emp).mono ?_
        rintro e w99 ⟨rfl, H99⟩
        go_wp2_with fail
        go_ret
        exact ⟨rfl, hg ▸ H99.toBelow (leA)⟩
      | false =>
        go_wp2_with fail
        refine (rrecSame_spec (⟨kind, name, attempt, epoch, mark, size, .slice as_ share.length cs_, share⟩ : Rc) (⟨kind', name', attempt', epoch', mark', size', .slice as' share'.length cs', share'⟩ : Rc) H14 HMR.out HMZ.out HMR2.out HMZ2.out).mono ?_
        rintro e w16 ⟨rfl, H16⟩
        rw [HE1.out]
        clear H14 l1 n1 c1 l2 n2 c2
        go_wp2_with fail
        refine (alive20 H16 celly_emp).mono ?_
        rintro e w99 ⟨rfl, H99⟩
        go_wp2_with fail
        go_ret
        exact ⟨rfl, hg ▸ H99.toBelow (leA)⟩
end Sh
