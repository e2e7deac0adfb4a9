/- PackBack: the walk. -/
import Derived.Test.YtdkkadpcgemefaaPackLaw
import Derived.Deep.CutBlock
set_option linter.unusedVariables false
set_option linter.unusedSimpArgs false
namespace Sh
open Go Go.RowKit Go.Proofs
attribute [local go_sem ↓] Go.wp_at_zero Go.wp_at_succ
set_option maxHeartbeats 1000000
set_option maxRecDepth 100000

theorem valB_be (k n : Nat) : valB (be k n) = n % 256 ^ k := by
  have key : ∀ i, i ≤ k → valB ((be k n).take i) = (n / 256 ^ (k - i)) % 256 ^ i := by
    intro i
    induction i with
    | zero => intro _; simp [valB, Nat.mod_one]
    | succ i ih =>
      intro hi
      rw [valB_succ _ _ (by rw [be_length]; omega), ih (by omega)]
      have e : (be k n)[i]'(by rw [be_length]; omega) = UInt8.ofNat (n / 256 ^ (k - 1 - i)) := by simp [be]
      rw [e]
      have e1 : k - i = (k - 1 - i) + 1 := by omega
      have e2 : k - (i + 1) = k - 1 - i := by omega
      rw [e1, e2]
      generalize k - 1 - i = m
      have e3 : n / 256 ^ (m + 1) = n / 256 ^ m / 256 := by rw [Nat.pow_succ, Nat.div_div_eq_div_mul]
      rw [e3]
      generalize n / 256 ^ m = x
      have e4 : (UInt8.ofNat x).toNat = x % 256 := by simp
      rw [e4, Nat.pow_succ, Nat.mul_comm (256 ^ i) 256, Nat.mod_mul]
      omega
  have h := key k (Nat.le_refl k)
  rw [List.take_of_length_le (by rw [be_length]; exact Nat.le_refl _), Nat.sub_self] at h
  simpa using h
theorem cut_pre {x y : List UInt8} {n : Nat} (h : n = x.length) : cutOk (x ++ y) false n = true ∧ cutOut (x ++ y) false n = x ∧ cutRest (x ++ y) false n = y := by
  have e : cutOk (x ++ y) false n = true := by simp [cutOk]; omega
  refine ⟨e, ?_, ?_⟩
  · unfold cutOut; rw [e, if_pos rfl, h]; simp
  · unfold cutRest; rw [e, if_pos rfl, h]; simp
@[go_sem] theorem wrap8 : IntKind.i64.wrap 8 = 8 := by decide
@[go_sem] theorem wrap16 : IntKind.i64.wrap 16 = 16 := by decide
@[go_sem] theorem wrap24 : IntKind.i64.wrap 24 = 24 := by decide
@[go_sem] theorem wrap32 : IntKind.i64.wrap 32 = 32 := by decide
@[go_sem] theorem wrapP8 : IntKind.i64.wrap 256 = 256 := by decide
@[go_sem] theorem wrapP16 : IntKind.i64.wrap 65536 = 65536 := by decide
@[go_sem] theorem wrapP24 : IntKind.i64.wrap 16777216 = 16777216 := by decide
@[go_sem] theorem wrapP32 : IntKind.i64.wrap 4294967296 = 4294967296 := by decide
@[go_sem] theorem tmod_nat (m : Nat) (y : Int) : (m : Int).tmod y = (m : Int) % y := Int.tmod_eq_emod_of_nonneg (Int.natCast_nonneg m)
theorem out06_drop {l : List Act06} {j : Nat} (h : j < l.length) : out06 (l.drop j) = enc06 l[j] ++ out06 (l.drop (j + 1)) := by
  unfold out06; rw [List.drop_eq_getElem_cons h, List.flatMap_cons]
theorem packBack_walk (W : World) {vl : Value} {l : List Act06} (hl : Rd W.cell? 4 vl l.length (l.flatMap Act06.cells)) (hg : ∀ a ∈ l, a.Good W.cell?) :
    Calls Try.prog 7 #[vl] W fun e w' => e = .returned (.bool true) ∧ Below W.heap.size W w' := by
  have hl0 := hl
  obtain ⟨al, cl, rfl⟩ := hl.form
  go_enter Try.func7, Try.ntmps7
  go_wp2_with fail
  refine (light06 hl0 hg).mono ?_
  rintro e w1 ⟨rfl, bel⟩
  have H0 := (Holds.start W).below bel
  by_cases hlt : isLight06 l = true
  · rw [hlt]
    simp only [isLight06, decide_eq_true_eq] at hlt
    obtain ⟨hb300, hl40⟩ := hlt
    go_wp2_with fail
    have H1 : Holds _ (Snap.of W) (star (wr _ []) emp) := wr_shut (((H0.alloc #[.slice none 0 0] 49).nilRow tU8 1).swap)
    generalize w1.heap.size = pw at H1 ⊢
    generalize (World.alloc ..) = w2 at H1 ⊢
    go_loopw [15] (fun i wx => ∃ j : Nat, i = .int .i64 j ∧ j ≤ l.length ∧ Holds wx (Snap.of W) (star (wr pw (out06 (l.take j))) emp)) (fun i _ => l.length - (intOf i).toNat)
    case atStart => exact ⟨0, rfl, Nat.zero_le _, H1⟩
    case round =>
      clear H1
      obtain ⟨j, rfl, hj, H3⟩ := hrel
      by_cases hlt : j < l.length
      · obtain ⟨bl, ol, rfl, hcl⟩ := hl0.open (by omega)
        have hx : ∀ r u, r < 4 → l[j].cells[r]? = some u → wr.cell? ⟨bl, ol + (j * 4 + r), none⟩ = some u := fun r u hr hu => H3.cell (R := Snap.of W) (hcl (j * 4 + r) u (by rw [flat_get _ 4 (fun _ => rfl) _ _ _ hlt hr]; exact hu))
        have hgj := hg l[j] (List.getElem_mem hlt)
        have hgb := hb300 l[j] (List.getElem_mem hlt)
        have hsucc := out06_succ hlt
        have hlen : (out06 (l.take j)).length ≤ 12000 := by
          have := out06_len (l := l.take j) fun a ha => hb300 a (List.mem_of_mem_take ha)
          rw [List.length_take] at this; omega
        generalize out06 (l.take j) = out at H3 hsucc hlen
        generalize l[j] = x at hx hgj hsucc hgb
        obtain ⟨xk, xK, xn, xv, xb⟩ := x
        obtain ⟨hxb, hxn⟩ := hgj
        obtain ⟨ab, cb, hab⟩ := hxb.form
        simp only at hab hgb
        subst hab
        have c0 : wr.cell? ⟨bl, ol + j * 4, none⟩ = some (.int .i64 xk) := hx 0 _ (by omega) rfl
        have c1 : wr.cell? ⟨bl, ol + j * 4 + 1, none⟩ = some (.int .i64 xK) := hx 1 _ (by omega) rfl
        have c2 : wr.cell? ⟨bl, ol + j * 4 + 2, none⟩ = some (.int .i64 xn) := hx 2 _ (by omega) rfl
        have c3 : wr.cell? ⟨bl, ol + j * 4 + 3, none⟩ = some (.slice ab xb.length cb) := hx 3 _ (by omega) rfl
        have HS := Hid.mk' hsucc
        clear hx hcl hsucc
        go_upto_region 9 with fail
        obtain ⟨R1, le1, H4, hba⟩ := H3.allocR (.cells #[.int .i64 xk, .int .i64 xK, .int .i64 xn, .slice ab xb.length cb] 51 (0, 0))
        clear H3 c0 c1 c2 c3
        generalize (World.alloc ..) = w4 at H4 ⊢
        generalize wr.heap.size = ba at H4 hba ⊢
        have hxR : RdB R1.cell? (.slice ab xb.length cb) xb := Rd.le (R := Snap.of W) hxb le1
        obtain ⟨l4, n4, c4⟩ := Holds.frzFacts (H4) hba
        by_cases k0 : xk = 0
        · subst k0
          go_wp2_with fail
          refine (num_spec H4 (by omega) hxn).mono ?_
          rintro e w5 ⟨rfl, H5⟩
          clear H4 l4 n4 c4
          go_wp2_with fail
          go_roundw
          case rel => exact ⟨j + 1, by go_num, hlt, by rw [HS.out, show enc06 ⟨0, xK, xn, .slice ab xb.length cb, xb⟩ = nb xK xn from if_pos rfl]; exact H5.weaken le1⟩
          case measure => simp [intOf]; omega
        · by_cases k1 : xk = 1
          · subst k1
            go_wp2_with fail
            refine (raw_spec H4 (by omega) (by omega) (hxR.world H4)).mono ?_
            rintro e w5 ⟨rfl, H5⟩
            clear H4 l4 n4 c4
            go_wp2_with fail
            go_roundw
            case rel => exact ⟨j + 1, by go_num, hlt, by rw [HS.out, show enc06 ⟨1, xK, xn, .slice ab xb.length cb, xb⟩ = xb from rfl]; exact H5.weaken le1⟩
            case measure => simp [intOf]; omega
          · have e06 : enc06 ⟨xk, xK, xn, .slice ab xb.length cb, xb⟩ = nb 1 (min xb.length 255 : Nat) ++ xb.take 255 := by
              unfold enc06; rw [if_neg k0, if_neg k1]
            have t0 : (decide (xk = 0)) = false := by simpa using k0
            have t1 : (decide (xk = 1)) = false := by simpa using k1
            go_wp2_with fail
            refine (text_spec H4 (by omega) (by omega) hxR).mono ?_
            rintro e w5 ⟨rfl, H5⟩
            clear H4 l4 n4 c4
            go_wp2_with fail
            go_roundw
            case rel => exact ⟨j + 1, by go_num, hlt, by rw [HS.out]; rw [List.append_assoc, ← e06] at H5; exact H5.weaken le1⟩
            case measure => simp [intOf]; omega
      · rw [List.take_of_length_le (by omega)] at H3
        have hlen := out06_len hb300
        go_wp2_with fail
        refine (bytes_spec H3 (by omega)).mono ?_
        rintro e w5 ⟨v5, rfl, H5⟩
        obtain ⟨R1, le1, H6, hr6⟩ := H5.freezeRow
        clear H3 H5
        go_wp2_with fail
        refine (read_spec H6 hr6).mono ?_
        rintro e w6 ⟨pr, rfl, H7⟩
        clear H6
        go_wp2_with fail
        generalize star (Sh.wr pw (out06 l)) emp = L0 at H7
        go_loopw [41] (fun i wx => ∃ (j : Nat) (vr : Value) (R : Snap), i = .int .i64 j ∧ j ≤ l.length ∧ (Snap.of W).le R ∧ RdB R.cell? vr (out06 (l.drop j)) ∧ Holds wx R (star (blk pr #[vr, .bool false] 209) L0)) (fun i _ => l.length - (intOf i).toNat)
        case atStart => exact ⟨0, _, R1, rfl, Nat.zero_le _, le1, hr6, H7⟩
        case round =>
          clear H7 hj
          obtain ⟨j, vr, R0, rfl, hj, le0, hvr, H3⟩ := hrel
          by_cases hlt : j < l.length
          · obtain ⟨bl, ol, rfl, hcl⟩ := hl0.open (by omega)
            have hx : ∀ r u, r < 4 → l[j].cells[r]? = some u → wr.cell? ⟨bl, ol + (j * 4 + r), none⟩ = some u := fun r u hr hu => H3.cell (le0.cell (hcl (j * 4 + r) u (by rw [flat_get _ 4 (fun _ => rfl) _ _ _ hlt hr]; exact hu)))
            have hgj := hg l[j] (List.getElem_mem hlt)
            have hgb := hb300 l[j] (List.getElem_mem hlt)
            rw [out06_drop hlt] at hvr
            have hrl : (out06 (l.drop (j + 1))).length ≤ 12000 := by
              have := out06_len (l := l.drop (j + 1)) fun a ha => hb300 a (List.mem_of_mem_drop ha)
              rw [List.length_drop] at this; omega
            generalize hrest : out06 (l.drop (j + 1)) = rest at hvr hrl
            have HR := Hid.mk' hrest
            clear hrest
            generalize l[j] = x at hx hgj hvr hgb
            obtain ⟨xk, xK, xn, xv, xb⟩ := x
            obtain ⟨hxb, hxn⟩ := hgj
            obtain ⟨ab, cb, hab⟩ := hxb.form
            simp only at hab hgb
            subst hab
            have hB := hxb.bounds
            have c0 : wr.cell? ⟨bl, ol + j * 4, none⟩ = some (.int .i64 xk) := hx 0 _ (by omega) rfl
            have c1 : wr.cell? ⟨bl, ol + j * 4 + 1, none⟩ = some (.int .i64 xK) := hx 1 _ (by omega) rfl
            have c2 : wr.cell? ⟨bl, ol + j * 4 + 2, none⟩ = some (.int .i64 xn) := hx 2 _ (by omega) rfl
            have c3 : wr.cell? ⟨bl, ol + j * 4 + 3, none⟩ = some (.slice ab xb.length cb) := hx 3 _ (by omega) rfl
            clear hx hcl
            go_upto_block 5 with fail
            obtain ⟨R1, le1, H4, hba⟩ := H3.allocR (.cells #[.int .i64 xk, .int .i64 xK, .int .i64 xn, .slice ab xb.length cb] 51 (0, 0))
            clear H3 c0 c1 c2 c3
            generalize (World.alloc ..) = w4 at H4 ⊢
            generalize wr.heap.size = ba at H4 hba ⊢
            have hvR := Rd.le hvr le1
            have hxR : RdB R1.cell? (.slice ab xb.length cb) xb := Rd.le (R := Snap.of W) hxb (le0.trans le1)
            obtain ⟨l4, n4, c4⟩ := Holds.frzFacts (H4) hba
            by_cases k0 : xk = 0
            · subst k0
              obtain ⟨f1, f2, f3⟩ := cut_pre (x := nb xK xn) (y := rest) (n := wid xK) (nb_length _ _).symm
              rw [show enc06 ⟨0, xK, xn, .slice ab xb.length cb, xb⟩ = nb xK xn from if_pos rfl] at hvR
              obtain ⟨m, hm⟩ : ∃ m : Nat, max xn 0 = (m : Int) := ⟨(max xn 0).toNat, by omega⟩
              have f4 : valB (nb xK xn) = m % 256 ^ wid xK := by
                unfold nb; rw [valB_be, hm, Int.toNat_natCast]
              have hwd : wid xK = 1 ∨ wid xK = 2 ∨ wid xK = 3 ∨ wid xK = 4 := by have := wid_bd xK; omega
              rcases hwd with hw | hw | hw | hw <;> rw [hw] at f4
              all_goals
                go_wp2_with fail
                go_region_held3 (fun w' => (∀ o, w'.cell? ⟨ba, o, none⟩ = #[.int .i64 0, .int .i64 xK, .int .i64 xn, .slice ab xb.length cb][o]?)) (first | (exact H5.frz hba) | ((repeat' (first | assumption | (with_reducible refine And.intro ?_ ?_) | (with_reducible refine keep_drew ?_) | (with_reducible refine keep_drewN ?_) | (with_reducible refine keep_alloc ?_ (by first | assumption | (simp only [World.size_alloc, World.size_drew, World.size_setCell]; omega))) | (with_reducible refine keep_set ?_ (by first | assumption | omega))))))
                  (first | (go_at_call 53; refine (rnum_spec H4.drew hvR).mono ?_; rintro e w5 ⟨v5, rfl, H5, hv5⟩; rw [f1] at H5; rw [f3] at hv5; rw [f2, f4]) | (go_at_call 62; refine (rwidth_spec _ _).mono ?_; rintro e w6 ⟨rfl, rfl⟩; rw [hw]))
              all_goals
                go_wp2_with fail
                go_roundw
                case rel => exact ⟨j + 1, _, R1, by go_num, hlt, le0.trans le1, HR.out ▸ hv5, H5⟩
                case measure => simp [intOf]; omega
            · by_cases k1 : xk = 1
              · subst k1
                obtain ⟨f1, f2, f3⟩ := cut_pre (x := xb) (y := rest) (n := xb.length) rfl
                rw [show enc06 ⟨1, xK, xn, .slice ab xb.length cb, xb⟩ = xb from rfl] at hvR
                go_wp2_with fail
                go_region_held3 (fun w' => (∀ o, w'.cell? ⟨ba, o, none⟩ = #[.int .i64 1, .int .i64 xK, .int .i64 xn, .slice ab xb.length cb][o]?)) (first | (exact (H5.drewN _).frz hba) | (exact H5.frz hba) | ((repeat' (first | assumption | (with_reducible refine And.intro ?_ ?_) | (with_reducible refine keep_drew ?_) | (with_reducible refine keep_drewN ?_) | (with_reducible refine keep_alloc ?_ (by first | assumption | (simp only [World.size_alloc, World.size_drew, World.size_setCell]; omega))) | (with_reducible refine keep_set ?_ (by first | assumption | omega))))))
                  (first | (go_at_call 55; refine (rraw_spec H4.drew hvR (by rw [List.length_append]; omega)).mono ?_; rintro e w5 ⟨o5, v5, rfl, H5, hv5⟩; rw [Int.toNat_natCast, f1, f2] at H5; rw [Int.toNat_natCast, f3] at hv5) | (go_at_call 40; refine (same_spec H5.rowRd (hxR.world H5) (by omega) (by omega)).mono ?_; rintro e w7 ⟨rfl, q, rfl⟩))
                all_goals
                  go_wp2_with fail
                  go_roundw
                  case rel => exact ⟨j + 1, _, R1, by go_num, hlt, le0.trans le1, HR.out ▸ hv5, H5.drop.drewN _⟩
                  case measure => simp [intOf]; omega
              · obtain ⟨k, hk⟩ : ∃ k, k = min xb.length 255 := ⟨_, rfl⟩
                have e06 : enc06 ⟨xk, xK, xn, .slice ab xb.length cb, xb⟩ = [UInt8.ofNat k] ++ xb.take k := by
                  unfold enc06; rw [if_neg k0, if_neg k1, ← hk, nb_one, show xb.take 255 = xb.take k by rw [hk]; by_cases h : xb.length ≤ 255 <;> simp [List.take_of_length_le, h, Nat.min_def]]
                rw [e06, List.append_assoc] at hvR
                obtain ⟨f1, f2, f3⟩ := cut_pre (x := [UInt8.ofNat k]) (y := xb.take k ++ rest) (n := 1) rfl
                have f4 : valB [UInt8.ofNat k] = k := by
                  have : k < 256 := by omega
                  simp [valB, Nat.mod_eq_of_lt this]
                obtain ⟨g1, g2, g3⟩ := cut_pre (x := xb.take k) (y := rest) (n := k) (by simp; omega)
                have hsub := RdB.pre hxR k (by omega)
                have hk1 : min (xb.length : Int) 255 = (k : Int) := by omega
                have t0 : (decide (xk = 0)) = false := by simpa using k0
                have t1 : (decide (xk = 1)) = false := by simpa using k1
                have i1 : (0 : Int) ≤ (k : Int) := by omega
                have i2 : (k : Int) ≤ (cb : Int) := by omega
                have HK := Hid.mk' hk
                clear hk
                go_wp2_with fail
                go_region_held3 (fun w' => (∀ o, w'.cell? ⟨ba, o, none⟩ = #[.int .i64 xk, .int .i64 xK, .int .i64 xn, .slice ab xb.length cb][o]?)) (first | (exact (H5.drewN _).frz hba) | (exact H5.frz hba) | ((repeat' (first | assumption | (with_reducible refine And.intro ?_ ?_) | (with_reducible refine keep_drew ?_) | (with_reducible refine keep_drewN ?_) | (with_reducible refine keep_alloc ?_ (by first | assumption | (simp only [World.size_alloc, World.size_drew, World.size_setCell]; omega))) | (with_reducible refine keep_set ?_ (by first | assumption | omega))))))
                  (first | (go_at_call 57; refine (rtext_spec H4.drew hvR (by simp; omega)).mono ?_; rintro e w5 ⟨o5, v5, rfl, H5, hv5⟩; rw [f1, f2, f3, f4, Bool.not_true, g1, g2] at H5; rw [f1, f2, f3, f4, Bool.not_true, g3] at hv5) | (go_at_call 40; refine (same_spec H5.rowRd (hsub.world H5) (by simp; omega) (by simp; omega)).mono ?_; rintro e w7 ⟨rfl, q, rfl⟩))
                all_goals
                  go_wp2_with fail
                  go_roundw
                  case rel => exact ⟨j + 1, _, R1, by go_num, hlt, le0.trans le1, HR.out ▸ hv5, H5.drop.drewN _⟩
                  case measure => simp [intOf]; omega
          · rw [List.drop_of_length_le (by omega)] at hvr
            go_wp2_with fail
            refine (rdone_spec H3 hvr).mono ?_
            rintro e w7 ⟨rfl, rfl⟩
            go_wp2_with fail
            refine (alive06 H3).mono ?_
            rintro e w8 ⟨rfl, H8⟩
            go_wp2_with fail
            go_ret
            exact ⟨rfl, H8.toBelow le0⟩
  · simp only [Bool.not_eq_true] at hlt
    rw [hlt]
    go_wp2_with fail
    refine (alive06 H0).mono ?_
    rintro e w2 ⟨rfl, H1⟩
    go_wp2_with fail
    go_ret
    exact ⟨rfl, H1.toBelow (Snap.le.refl _)⟩
end Sh
