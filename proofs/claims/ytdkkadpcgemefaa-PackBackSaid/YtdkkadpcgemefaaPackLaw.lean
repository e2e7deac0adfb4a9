/- The packer's laws (layer 6): the walks. -/
import Derived.Test.YtdkkadpcgemefaaPackRef
set_option linter.unusedVariables false
set_option linter.unusedSimpArgs false
namespace Sh
open Go Go.RowKit Go.Proofs
attribute [local go_sem ↓] Go.wp_at_zero Go.wp_at_succ
set_option maxHeartbeats 1000000
set_option maxRecDepth 100000

theorem alive06 {w : World} {R : Snap} {L : Asrt} (H : Holds w R L) : Calls Try.prog 45 #[] w fun e w' => e = .returned (.bool true) ∧ Holds w' R L := by
  go_enter Try.func45, Try.ntmps45
  go_wp2_with fail
  have H1 : Holds _ R (star (wr _ []) L) := wr_shut (((H.alloc #[.slice none 0 0] 49).nilRow tU8 1).swap)
  refine (num_spec H1 (by decide) (by decide)).mono ?_
  rintro e w1 ⟨rfl, H2⟩
  clear H1
  generalize w.heap.size = pw at H2 ⊢
  go_wp2_with fail
  obtain ⟨R1, hle1, H3, hb1⟩ := H2.allocR (.cells #[.int .u8 97, .int .u8 98] tU8 (2, 3))
  clear H2
  have hr1 := frzRdB hb1 [97, 98] rfl rfl (Nat.le_refl 2) (by decide)
  refine (text_spec H3 (by decide) (by decide) hr1).mono ?_
  rintro e w2 ⟨rfl, H4⟩
  clear H3
  rw [show (([] ++ nb 2 258) ++ nb 1 (min ([97, 98] : List UInt8).length 255 : Nat) ++ ([97, 98] : List UInt8).take 255) = [1, 2, 2, 97, 98] from by decide] at H4
  go_wp2_with fail
  refine (bytes_spec H4 (by decide)).mono ?_
  rintro e w3 ⟨v3, rfl, H5⟩
  clear H4
  obtain ⟨R2, hle2, H6, hr2⟩ := H5.freezeRow
  clear H5
  go_wp2_with fail
  refine (read_spec H6 hr2).mono ?_
  rintro e w4 ⟨pr, rfl, H7⟩
  clear H6
  go_wp2_with fail
  refine (bytes_spec H7.swap (by decide)).mono ?_
  rintro e w5 ⟨v5, rfl, H8⟩
  clear H7
  go_wp2_with fail
  have H9 := H8.alloc #[.int .u8 1, .int .u8 2, .int .u8 2, .int .u8 97, .int .u8 98] tU8
  clear H8
  refine (same_spec (k := [1, 2, 2, 97, 98]) H9.swap.rowRd (blkRdB H9 _ rfl rfl (by decide)) (by decide) (by decide)).mono ?_
  rintro e w6 ⟨rfl, q, rfl⟩
  rw [show decide (([1, 2, 2, 97, 98] : List UInt8) = [1, 2, 2, 97, 98]) = true from by decide]
  have H10 : Holds _ R2 (star (blk pr #[v3, .bool false] 209) L) := H9.drop.drop.drop.drewN q
  clear H9
  generalize (World.drewN ..) = w7 at H10 ⊢
  go_wp2_with fail
  refine (rnum_spec H10 hr2).mono ?_
  rintro e w8 ⟨v8, rfl, H11, hr8⟩
  clear H10
  rw [show cutRest ([1, 2, 2, 97, 98] : List UInt8) false (wid 2) = [2, 97, 98] from by decide] at hr8
  rw [show cutOk ([1, 2, 2, 97, 98] : List UInt8) false (wid 2) = true from by decide] at H11
  rw [show (valB (cutOut ([1, 2, 2, 97, 98] : List UInt8) false (wid 2)) : Int) = 258 from by decide]
  go_wp2_with fail
  refine (rtext_spec H11 hr8 (by decide)).mono ?_
  rintro e w9 ⟨o9, v9, rfl, H12, hr9⟩
  clear H11
  rw [show cutOut (cutRest ([2, 97, 98] : List UInt8) (!true) 1) (!cutOk ([2, 97, 98] : List UInt8) (!true) 1) (valB (cutOut ([2, 97, 98] : List UInt8) (!true) 1)) = [97, 98] from by decide, show (!cutOk (cutRest ([2, 97, 98] : List UInt8) (!true) 1) (!cutOk ([2, 97, 98] : List UInt8) (!true) 1) (valB (cutOut ([2, 97, 98] : List UInt8) (!true) 1))) = false from by decide] at H12
  rw [show cutRest (cutRest ([2, 97, 98] : List UInt8) (!true) 1) (!cutOk ([2, 97, 98] : List UInt8) (!true) 1) (valB (cutOut ([2, 97, 98] : List UInt8) (!true) 1)) = [] from by decide] at hr9
  have cs := convStr H12.rowRd
  go_wp2_with fail
  refine (rdone_spec H12.drop hr9).mono ?_
  rintro e w10 ⟨rfl, rfl⟩
  go_wp2_with fail
  go_ret
  exact ⟨rfl, H12.drop.drop.weaken (hle1.trans hle2)⟩
/-- What a call of the law is: Kind, K, N and B, with B's bytes. -/
structure Act06 where
  kind : Int
  k : Int
  n : Int
  v : Value
  b : List UInt8
instance : Inhabited Act06 := ⟨⟨0, 0, 0, .slice none 0 0, []⟩⟩
def Act06.cells (a : Act06) : List Value := [.int .i64 a.kind, .int .i64 a.k, .int .i64 a.n, a.v]
def Act06.Good (c : Addr → Option Value) (a : Act06) : Prop := RdB c a.v a.b ∧ a.n ≤ 9223372036854775807
def isLight06 (l : List Act06) : Bool := decide ((∀ a ∈ l, a.b.length ≤ 300) ∧ l.length ≤ 40)
theorem light06 {w : World} {vl : Value} {l : List Act06} (hl : Rd w.cell? 4 vl l.length (l.flatMap Act06.cells)) (hg : ∀ a ∈ l, a.Good w.cell?) :
    Calls Try.prog 44 #[vl] w fun e w' => e = .returned (.bool (isLight06 l)) ∧ Below w.heap.size w w' := by
  obtain ⟨al, cl, rfl⟩ := hl.form
  have hm := hl.max
  unfold maxLen at hm
  go_enter Try.func44, Try.ntmps44
  go_wp2_with fail
  go_loopw [7] (fun i wr => ∃ j : Nat, i = .int .i64 j ∧ j ≤ l.length ∧ (∀ a ∈ l.take j, a.b.length ≤ 300) ∧ Below w.heap.size w wr) (fun i _ => l.length - (intOf i).toNat)
  case atStart => exact ⟨0, rfl, Nat.zero_le _, by simp, Below.refl _ _⟩
  case round =>
    obtain ⟨j, rfl, hj, hall, hbel⟩ := hrel
    by_cases hlt : j < l.length
    · obtain ⟨bl, ol, rfl, hcl⟩ := hl.open (by omega)
      have hx : ∀ r u, r < 4 → l[j].cells[r]? = some u → wr.cell? ⟨bl, ol + (j * 4 + r), none⟩ = some u := fun r u hr hu => by
        have h := hcl (j * 4 + r) u (by rw [flat_get _ 4 (fun _ => rfl) _ _ _ hlt hr]; exact hu)
        exact (hbel.cell (World.block_lt_of_cell? w _ h)).trans h
      have hgj := hg l[j] (List.getElem_mem hlt)
      have htk : ∀ p : Act06 → Prop, (∀ a ∈ l.take j, p a) → p l[j] → ∀ a ∈ l.take (j + 1), p a := by
        intro p h1 h2 a ha
        rw [List.take_succ_eq_append_getElem hlt] at ha
        rcases List.mem_append.1 ha with h | h
        · exact h1 a h
        · rw [List.mem_singleton.1 h]; exact h2
      have htk2 : ¬ l[j].b.length ≤ 300 → isLight06 l = false := fun h1 => by
        simp only [isLight06, decide_eq_false_iff_not]
        exact fun h2 => h1 (h2.1 _ (List.getElem_mem hlt))
      generalize l[j] = x at hx hgj htk htk2
      obtain ⟨xk, xK, xn, xv, xb⟩ := x
      obtain ⟨hxb, _⟩ := hgj
      obtain ⟨ab, cb, hab⟩ := hxb.form
      simp only at hab
      subst hab
      have c0 : wr.cell? ⟨bl, ol + j * 4, none⟩ = some (.int .i64 xk) := hx 0 _ (by omega) rfl
      have c1 : wr.cell? ⟨bl, ol + j * 4 + 1, none⟩ = some (.int .i64 xK) := hx 1 _ (by omega) rfl
      have c2 : wr.cell? ⟨bl, ol + j * 4 + 2, none⟩ = some (.int .i64 xn) := hx 2 _ (by omega) rfl
      have c3 : wr.cell? ⟨bl, ol + j * 4 + 3, none⟩ = some (.slice ab xb.length cb) := hx 3 _ (by omega) rfl
      have HA := Hid.mk' hall
      have HT := Hid.mk' htk
      have HT2 := Hid.mk' htk2
      clear hx hcl hall htk htk2
      by_cases h3 : xb.length ≤ 300
      · have t1 : (decide ((300 : Int) < xb.length)) = false := by simp; omega
        go_wp2_with fail
        go_roundw
        case rel =>
          exact ⟨j + 1, by go_num, hlt, HT.out _ HA.out h3, hbel.alloc hbel.size _⟩
        case measure => simp [intOf]; omega
      · have t1 : (decide ((300 : Int) < xb.length)) = true := by simp; omega
        go_wp2_with fail
        go_ret
        exact ⟨ret_bool (HT2.out h3).symm, hbel.alloc hbel.size _⟩
    · have HA := Hid.mk' hall
      clear hall
      go_wp2_with fail
      go_ret
      have e := HA.out
      rw [List.take_of_length_le (by omega)] at e
      refine ⟨ret_bool ?_, hbel⟩
      rw [Bool.eq_iff_iff]
      simp only [isLight06, decide_eq_true_eq, beq_iff_eq]
      constructor
      · intro h; exact ⟨e, by omega⟩
      · intro h; have := h.2; omega
def enc06 (a : Act06) : List UInt8 := if a.kind = 0 then nb a.k a.n else if a.kind = 1 then a.b else nb 1 (min a.b.length 255 : Nat) ++ a.b.take 255
def out06 (l : List Act06) : List UInt8 := l.flatMap enc06
theorem enc06_len {a : Act06} (h : a.b.length ≤ 300) : (enc06 a).length ≤ 300 := by
  have := (wid_bd a.k).2
  unfold enc06; split
  · rw [nb_length]; omega
  split
  · exact h
  · rw [List.length_append, nb_length, List.length_take, show wid 1 = 1 from rfl]; omega
theorem out06_len : ∀ {l : List Act06}, (∀ a ∈ l, a.b.length ≤ 300) → (out06 l).length ≤ 300 * l.length
  | [], _ => by simp [out06]
  | a :: l, h => by
    have h1 := out06_len (l := l) fun x hx => h x (List.mem_cons_of_mem _ hx)
    have h2 := enc06_len (h a List.mem_cons_self)
    simp only [out06, List.flatMap_cons, List.length_append, List.length_cons] at *
    omega
theorem out06_succ {l : List Act06} {j : Nat} (h : j < l.length) : out06 (l.take (j + 1)) = out06 (l.take j) ++ enc06 l[j] := by
  unfold out06; rw [List.take_succ_eq_append_getElem h, List.flatMap_append, List.flatMap_singleton]
theorem packWrites_walk (W : World) {vl : Value} {l : List Act06} (hl : Rd W.cell? 4 vl l.length (l.flatMap Act06.cells)) (hg : ∀ a ∈ l, a.Good W.cell?) :
    Calls Try.prog 5 #[vl] W fun e w' => e = .returned (.bool true) ∧ Below W.heap.size W w' := by
  have hl0 := hl
  obtain ⟨al, cl, rfl⟩ := hl.form
  go_enter Try.func5, Try.ntmps5
  go_wp2_with fail
  refine (light06 hl0 hg).mono ?_
  rintro e w1 ⟨rfl, bel⟩
  have H0 := (Holds.start W).below bel
  by_cases hlt : isLight06 l = true
  · rw [hlt]
    simp only [isLight06, decide_eq_true_eq] at hlt
    obtain ⟨hb300, hl40⟩ := hlt
    go_wp2_with fail
    have H1 : Holds _ (Snap.of W) (star (wr _ []) emp) := wr_shut (((H0.alloc #[.slice none 0 0] 49).nilRow tU8 1).swap)
    have H2 := H1.nilRow tU8 1
    clear H1
    generalize w1.heap.size = pw at H2 ⊢
    generalize (World.alloc ..) = w2 at H2 ⊢
    go_loopw [13, 4] (fun i want wr_ => ∃ j : Nat, i = .int .i64 j ∧ j ≤ l.length ∧ Holds wr_ (Snap.of W) (star (rowB want (out06 (l.take j))) (star (wr pw (out06 (l.take j))) emp))) (fun i _ _ => l.length - (intOf i).toNat)
    case atStart => exact ⟨0, rfl, Nat.zero_le _, H2⟩
    case round =>
      obtain ⟨j, rfl, hj, H3⟩ := hrel
      by_cases hlt : j < l.length
      · obtain ⟨bl, ol, rfl, hcl⟩ := hl0.open (by omega)
        have hx : ∀ r u, r < 4 → l[j].cells[r]? = some u → wr.cell? ⟨bl, ol + (j * 4 + r), none⟩ = some u := fun r u hr hu => H3.cell (R := Snap.of W) (hcl (j * 4 + r) u (by rw [flat_get _ 4 (fun _ => rfl) _ _ _ hlt hr]; exact hu))
        have hgj := hg l[j] (List.getElem_mem hlt)
        have hgb := hb300 l[j] (List.getElem_mem hlt)
        have hsucc := out06_succ hlt
        have hlen : (out06 (l.take j)).length ≤ 12000 := by
          have := out06_len (l := l.take j) fun a ha => hb300 a (List.mem_of_mem_take ha)
          rw [List.length_take] at this; omega
        generalize out06 (l.take j) = out at H3 hsucc hlen
        generalize l[j] = x at hx hgj hsucc hgb
        obtain ⟨xk, xK, xn, xv, xb⟩ := x
        obtain ⟨hxb, hxn⟩ := hgj
        obtain ⟨ab, cb, hab⟩ := hxb.form
        simp only at hab hgb
        subst hab
        have c0 : wr.cell? ⟨bl, ol + j * 4, none⟩ = some (.int .i64 xk) := hx 0 _ (by omega) rfl
        have c1 : wr.cell? ⟨bl, ol + j * 4 + 1, none⟩ = some (.int .i64 xK) := hx 1 _ (by omega) rfl
        have c2 : wr.cell? ⟨bl, ol + j * 4 + 2, none⟩ = some (.int .i64 xn) := hx 2 _ (by omega) rfl
        have c3 : wr.cell? ⟨bl, ol + j * 4 + 3, none⟩ = some (.slice ab xb.length cb) := hx 3 _ (by omega) rfl
        have HS := Hid.mk' hsucc
        clear hx hcl hsucc
        go_upto_region 11 with fail
        obtain ⟨R1, le1, H4, hba⟩ := H3.allocR (.cells #[.int .i64 xk, .int .i64 xK, .int .i64 xn, .slice ab xb.length cb] 51 (0, 0))
        clear H3 c0 c1 c2 c3
        generalize (World.alloc ..) = w4 at H4 ⊢
        generalize wr.heap.size = ba at H4 hba ⊢
        have hxR : RdB R1.cell? (.slice ab xb.length cb) xb := Rd.le (R := Snap.of W) hxb le1
        obtain ⟨l4, n4, c4⟩ := Holds.frzFacts (H4) hba
        by_cases k0 : xk = 0
        · subst k0
          go_wp2_with fail
          refine (num_spec H4.swap (by omega) hxn).mono ?_
          rintro e w5 ⟨rfl, H5⟩
          clear H4 l4 n4 c4
          obtain ⟨l5, n5, c5⟩ := Holds.frzFacts (H5) hba
          go_wp2_with (with_reducible refine stop_append ?_)
          refine (refnum_spec H5 hxn).mono ?_
          rintro e w6 ⟨v6, rfl, H6⟩
          clear H5 l5 n5 c5
          go_wp2_with (with_reducible refine stop_append ?_)
          refine Hold.go (wpList_appendB rfl _ _ rfl rfl rfl H6.pick3 H6.rowRd (by have := enc06_len (a := ⟨0, xK, xn, .slice ab xb.length cb, xb⟩) hgb; have e : enc06 ⟨0, xK, xn, .slice ab xb.length cb, xb⟩ = nb xK xn := if_pos rfl; rw [e] at this; omega) ?_)
          intro v7 w7 H7
          clear H6
          go_wp2_with fail
          go_roundw
          case rel => exact ⟨j + 1, by go_num, hlt, by rw [HS.out, show enc06 ⟨0, xK, xn, .slice ab xb.length cb, xb⟩ = nb xK xn from if_pos rfl]; exact H7.drop2.weaken le1⟩
          case measure => simp [intOf]; omega
        · by_cases k1 : xk = 1
          · subst k1
            go_wp2_with fail
            refine (raw_spec H4.swap (by omega) (by omega) (hxR.world H4)).mono ?_
            rintro e w5 ⟨rfl, H5⟩
            clear H4 l4 n4 c4
            obtain ⟨l5, n5, c5⟩ := Holds.frzFacts (H5) hba
            go_wp2_with (with_reducible refine stop_append ?_)
            refine Hold.go (wpList_appendB rfl _ _ rfl rfl rfl H5.swap (hxR.world H5) (by omega) ?_)
            intro v7 w7 H7
            go_wp2_with fail
            go_roundw
            case rel => exact ⟨j + 1, by go_num, hlt, by rw [HS.out, show enc06 ⟨1, xK, xn, .slice ab xb.length cb, xb⟩ = xb from rfl]; exact H7.weaken le1⟩
            case measure => simp [intOf]; omega
          · have e06 : enc06 ⟨xk, xK, xn, .slice ab xb.length cb, xb⟩ = nb 1 (min xb.length 255 : Nat) ++ xb.take 255 := by
              unfold enc06; rw [if_neg k0, if_neg k1]
            have hl06 := enc06_len (a := ⟨xk, xK, xn, .slice ab xb.length cb, xb⟩) hgb
            have t0 : (decide (xk = 0)) = false := by simpa using k0
            have t1 : (decide (xk = 1)) = false := by simpa using k1
            go_wp2_with fail
            refine (text_spec H4.swap (by omega) (by omega) hxR).mono ?_
            rintro e w5 ⟨rfl, H5⟩
            clear H4 l4 n4 c4
            obtain ⟨l5, n5, c5⟩ := Holds.frzFacts (H5) hba
            go_wp2_with (with_reducible refine stop_append ?_)
            refine (reftext_spec H5 hxR (by omega)).mono ?_
            rintro e w6 ⟨v6, rfl, H6⟩
            clear H5 l5 n5 c5
            go_wp2_with (with_reducible refine stop_append ?_)
            rw [← e06] at H6
            refine Hold.go (wpList_appendB rfl _ _ rfl rfl rfl H6.pick3 H6.rowRd (by omega) ?_)
            intro v7 w7 H7
            clear H6
            go_wp2_with fail
            go_roundw
            case rel => exact ⟨j + 1, by go_num, hlt, by rw [HS.out]; rw [List.append_assoc, ← e06] at H7; exact H7.drop2.weaken le1⟩
            case measure => simp [intOf]; omega
      · rw [List.take_of_length_le (by omega)] at H3
        have hlen := out06_len hb300
        generalize out06 l = out at H3 hlen
        go_wp2_with fail
        refine (bytes_spec H3.swap (by omega)).mono ?_
        rintro e w5 ⟨v5, rfl, H5⟩
        go_wp2_with fail
        refine (same_spec H5.rowRd H5.pick3.rowRd (by omega) (by omega)).mono ?_
        rintro e w6 ⟨rfl, q, rfl⟩
        rw [show decide (out = out) = true from by simp]
        have H6 := (H5.drewN q).drop.drop.drop
        clear H5 H3
        generalize (World.drewN ..) = w7 at H6 ⊢
        go_wp2_with fail
        refine (alive06 H6).mono ?_
        rintro e w8 ⟨rfl, H8⟩
        go_wp2_with fail
        go_ret
        exact ⟨rfl, H8.toBelow (Snap.le.refl _)⟩
  · simp only [Bool.not_eq_true] at hlt
    rw [hlt]
    go_wp2_with fail
    refine (alive06 H0).mono ?_
    rintro e w2 ⟨rfl, H1⟩
    go_wp2_with fail
    go_ret
    exact ⟨rfl, H1.toBelow (Snap.le.refl _)⟩
end Sh
