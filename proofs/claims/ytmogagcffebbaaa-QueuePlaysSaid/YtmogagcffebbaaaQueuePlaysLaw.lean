/- QueuePlays: the walk. -/
import Derived.Test.YtmogagcffebbaaaQueueRef2
import Derived.Test.YtmogagcffebbaaaQueueLaw
set_option linter.unusedVariables false
set_option linter.unusedSimpArgs false
namespace Sh
open Go Go.RowKit Go.Proofs
attribute [local go_sem ↓] Go.wp_at_zero Go.wp_at_succ
set_option maxHeartbeats 1000000
set_option maxRecDepth 100000

/-- Two items agree. -/
def ItSame (c : Addr → Option Value) (x y : It) : Prop := x.id = y.id ∧ x.kind = y.kind ∧ x.name = y.name ∧ ∃ b, RdB c x.v b ∧ RdB c y.v b ∧ b.length ≤ 1000000
def ItsSame (c : Addr → Option Value) : List It → List It → Prop
  | [], [] => True
  | x :: I, y :: J => ItSame c x y ∧ ItsSame c I J
  | _, _ => False
theorem ItSame.le {R R' : Snap} {x y : It} (h : ItSame R.cell? x y) (l : R.le R') : ItSame R'.cell? x y := by
  obtain ⟨h1, h2, h3, b, h4, h5, h6⟩ := h
  exact ⟨h1, h2, h3, b, Rd.le h4 l, Rd.le h5 l, h6⟩
theorem ItsSame.le {R R' : Snap} (l : R.le R') : ∀ {I J : List It}, ItsSame R.cell? I J → ItsSame R'.cell? I J
  | [], [], _ => trivial
  | _ :: _, _ :: _, h => ⟨h.1.le l, ItsSame.le l h.2⟩
  | [], _ :: _, h => h.elim
  | _ :: _, [], h => h.elim
theorem ItsSame.length {c : Addr → Option Value} : ∀ {I J : List It}, ItsSame c I J → I.length = J.length
  | [], [], _ => rfl
  | _ :: _, _ :: _, h => by simp only [List.length_cons]; rw [ItsSame.length h.2]
  | [], _ :: _, h => h.elim
  | _ :: _, [], h => h.elim
theorem ItsSame.snoc {c : Addr → Option Value} {x y : It} (hx : ItSame c x y) : ∀ {I J : List It}, ItsSame c I J → ItsSame c (I ++ [x]) (J ++ [y])
  | [], [], _ => ⟨hx, trivial⟩
  | _ :: _, _ :: _, h => ⟨h.1, ItsSame.snoc hx h.2⟩
  | [], _ :: _, h => h.elim
  | _ :: _, [], h => h.elim
theorem ItsSame.get {c : Addr → Option Value} : ∀ {I J : List It}, ItsSame c I J → ∀ (i : Nat) (h1 : i < I.length) (h2 : i < J.length), ItSame c I[i] J[i]
  | [], _, _, i, h, _ => by simp at h
  | _ :: _, [], h, _, _, _ => h.elim
  | _ :: _, _ :: _, h, 0, _, _ => h.1
  | _ :: _, _ :: _, h, i + 1, h1, h2 => ItsSame.get h.2 i (by simpa using h1) (by simpa using h2)
theorem ItsSame.plainL {c : Addr → Option Value} : ∀ {I J : List It}, ItsSame c I J → ∀ x ∈ I, x.plain
  | [], _, _, _, h => by cases h
  | _ :: _, [], h, _, _ => h.elim
  | x :: _, y :: _, h, z, hz => by
    rcases List.mem_cons.1 hz with rfl | hz
    · obtain ⟨_, _, _, b, h4, _⟩ := h.1; obtain ⟨a, c, e⟩ := h4.form; exact ⟨a, _, c, e⟩
    · exact ItsSame.plainL h.2 z hz
theorem ItsSame.plainR {c : Addr → Option Value} : ∀ {I J : List It}, ItsSame c I J → ∀ x ∈ J, x.plain
  | [], [], _, _, h => by cases h
  | [], _ :: _, h, _, _ => h.elim
  | _ :: _, [], h, _, _ => h.elim
  | x :: _, y :: _, h, z, hz => by
    rcases List.mem_cons.1 hz with rfl | hz
    · obtain ⟨_, _, _, b, _, h4, _⟩ := h.1; obtain ⟨a, c, e⟩ := h4.form; exact ⟨a, _, c, e⟩
    · exact ItsSame.plainR h.2 z hz

/-- What holds of the two queues, between two rounds. -/
structure QInv (W : World) (R : Snap) (X : List It) (first : Nat) (I J : List It) (vm : Value) (added : Int) (j : Nat) : Prop where
  le : (Snap.of W).le R
  q : QRel X first I.length I
  len : X.length ≤ 202
  one : ∀ x ∈ X, x.v.oneCell' = true
  rd : Rd R.cell? 4 vm J.length (J.flatMap It.cells)
  same : ItsSame R.cell? I J
  n : I.length ≤ j
  add : 0 ≤ added ∧ added ≤ j

theorem Snap.some_blk {R : Snap} {b o : Nat} {v : Value} (h : R.cell? ⟨b, o, none⟩ = some v) : (R.blk b).isSome = true := by
  unfold Snap.cell? at h
  cases hb : R.blk b with
  | none => rw [hb] at h; cases h
  | some _ => rfl
theorem queuePlays_walk (W : World) {vl : Value} {l : List Op3} (hl : Rd W.cell? 3 vl l.length (l.flatMap Op3.cells)) (hg : ∀ a ∈ l, a.Good W.cell?) :
    Calls Try.prog 5 #[vl] W fun e w' => e = .returned (.bool true) ∧ Below W.heap.size W w' := by
  have hl0 := hl
  obtain ⟨al, cl, rfl⟩ := hl.form
  have hlS : Rd (Snap.of W).cell? 3 (.slice al l.length cl) l.length (l.flatMap Op3.cells) := hl0
  by_cases h1 : 100 < l.length
  · have t1 : decide ((100 : Int) < (l.length : Int)) = true := by simp; omega
    go_enter Try.func5, Try.ntmps5
    go_wp2_with fail
    refine (alive39 (Holds.start W)).mono ?_
    rintro e w2 ⟨rfl, H1⟩
    go_wp2_with fail
    go_ret
    exact ⟨rfl, H1.toBelow (Snap.le.refl _)⟩
  have t1 : decide ((100 : Int) < (l.length : Int)) = false := by simp; omega
  have hl9 : l.length ≤ 100 := by omega
  have H1 := (queue_new (Holds.start W)).alloc #[.slice none 0 0, .int .i64 0] tRM
  go_enter Try.func5, Try.ntmps5
  go_wp2_with fail
  generalize hw1 : World.alloc (World.alloc W _) _ = w1 at H1 ⊢
  simp only [World.size_alloc] at H1
  generalize W.heap.size + 1 = pm at H1 ⊢
  generalize hp : W.heap.size = p at H1 ⊢
  clear hw1 h1
  go_loopw [21] (fun i wx => ∃ (j : Nat) (R : Snap) (X : List It) (first : Nat) (I J : List It) (vm : Value) (added : Int), i = .int .i64 j ∧ j ≤ l.length ∧ QInv W R X first I J vm added j ∧ Holds wx R (star (blk pm #[vm, .int .i64 added] tRM) (star (queueA p X first I.length added) emp))) (fun i _ => l.length - (intOf i).toNat)
  case atStart => exact ⟨0, Snap.of W, [], 0, [], [], .slice none 0 0, 0, rfl, Nat.zero_le _, ⟨Snap.le.refl _, q_empty, by decide, by simp, Rd.nil, trivial, Nat.le_refl _, by decide⟩, H1⟩
  case round =>
    clear H1
    obtain ⟨j, R, X, first, I, J, vm, added, rfl, hj, hQ, H3⟩ := hrel
    by_cases hlt : j < l.length
    · obtain ⟨bl, ol, rfl, hx⟩ := rd_elt (f := Op3.cells) (fun _ => rfl) (Rd.world hlS (H3.weaken hQ.le)) (by decide) hlt
      have hgj := hg l[j] (List.getElem_mem hlt)
      generalize l[j] = x at hx hgj
      obtain ⟨xk, xn, xv, xb⟩ := x
      obtain ⟨hxb, hxn, _⟩ := hgj
      obtain ⟨ax, cx, hab⟩ := hxb.form
      simp only at hab hxn hxb
      subst hab
      have hbm := hxb.max
      unfold maxLen at hbm hxn
      have c0 : wr.cell? ⟨bl, ol + j * 3, none⟩ = some (.int .i64 xk) := hx 0 _ (by omega) rfl
      have c1 : wr.cell? ⟨bl, ol + j * 3 + 1, none⟩ = some (.string xn) := hx 1 _ (by omega) rfl
      have c2 : wr.cell? ⟨bl, ol + j * 3 + 2, none⟩ = some (.slice ax xb.length cx) := hx 2 _ (by omega) rfl
      clear hx
      have HQI := Hid.mk' hQ
      by_cases h60 : 60 < xn.size
      · have t60 : decide ((60 : Int) < (xn.size : Int)) = true := by simp; omega
        have HO := H3.alloc #[.int .i64 xk, .string xn, .slice ax xb.length cx] tOp
        clear hQ
        go_wp2_with fail
        refine (alive39 HO).mono ?_
        rintro e w4 ⟨rfl, H4⟩
        go_wp2_with fail
        go_ret
        exact ⟨rfl, hp ▸ H4.toBelow HQI.out.le⟩
      have t60 : decide ((60 : Int) < (xn.size : Int)) = false := by simp; omega
      by_cases h300 : 300 < xb.length
      · have t300 : decide ((300 : Int) < (xb.length : Int)) = true := by simp; omega
        have HO := H3.alloc #[.int .i64 xk, .string xn, .slice ax xb.length cx] tOp
        clear hQ
        go_wp2_with fail
        refine (alive39 HO).mono ?_
        rintro e w4 ⟨rfl, H4⟩
        go_wp2_with fail
        go_ret
        exact ⟨rfl, hp ▸ H4.toBelow HQI.out.le⟩
      have t300 : decide ((300 : Int) < (xb.length : Int)) = false := by simp; omega
      have hxb9 : xb.length ≤ 1000000 := by omega
      clear h60 h300 hQ
      go_upto_block 2 with fail
      obtain ⟨R1, le1, H4, hba⟩ := H3.allocR (.cells #[.int .i64 xk, .string xn, .slice ax xb.length cx] tOp (0, 0))
      clear H3 c0 c1 c2
      generalize (World.alloc ..) = w4 at H4 ⊢
      generalize wr.heap.size = ba at H4 hba ⊢
      have hxR : RdB R1.cell? (.slice ax xb.length cx) xb := Rd.le (R := Snap.of W) hxb (HQI.out.le.trans le1)
      obtain ⟨q1, q2, q3, q4, q5, q6, q7, q8, q9⟩ := HQI.out
      have HQ2 := Hid.mk' q2
      have HQ4 := Hid.mk' q4
      have HQ5 := Hid.mk' (q5.le le1)
      have HQ6 := Hid.mk' (q6.le le1)
      obtain ⟨am, cm, rfl⟩ := q5.form
      clear q2 q4 q5 q6 HQI
      go_cut [] (fun wx => ∃ (R : Snap) (X : List It) (first : Nat) (I J : List It) (vm : Value) (added : Int), QInv W R X first I J vm added (j + 1) ∧ Holds wx R (star (blk pm #[vm, .int .i64 added] tRM) (star (queueA p X first I.length added) emp)))
      case first =>
        obtain ⟨l4, n4, c4⟩ := Holds.frzFacts (H4) hba
        have hIJ := HQ6.out.length
        have hI9 : I.length ≤ 100 := by omega
        have HP := Hid.mk' HQ6.out.plainR
        by_cases k0 : xk = 0
        · subst k0
          match I, J, HQ6 with
          | [], [], HQ6 =>
            simp only [List.length_nil] at H4
            go_wp2_with fail
            refine (qnext_none H4.swap).mono ?_
            rintro e w5 ⟨rfl, H5⟩
            have H6 := H5.alloc #[.int .i64 0, .int .i64 0, .string ⟨#[]⟩, .slice none 0 0] tItem
            go_wp2_with fail
            refine (mnext_none H6.pick3).mono ?_
            rintro e w7 ⟨rfl, H7⟩
            have H8 := H7.alloc #[.int .i64 0, .int .i64 0, .string ⟨#[]⟩, .slice none 0 0] tRItem
            obtain ⟨l8, n8, c8, z8⟩ := Holds.facts (H8)
            obtain ⟨l9, n9, c9, z9⟩ := Holds.facts (H8.pick3)
            go_wp2_with fail
            refine (same39_spec (b := []) H8 RdB.nil RdB.nil (by decide)).mono ?_
            rintro e w9 ⟨rfl, H9⟩
            go_wp2_with fail
            go_meet
            case rel => exact ⟨R1, X, first, [], [], _, added, ⟨q1.trans le1, HQ2.out, q3, HQ4.out, HQ5.out, HQ6.out, Nat.zero_le _, by omega⟩, H9.drop.drop2⟩
          | y :: I, z :: J, HQ6 =>
            obtain ⟨yi, yk, yn, yv⟩ := y
            obtain ⟨zi, zk, zn, zv⟩ := z
            obtain ⟨⟨s1, s2, s3, sb, s4, s5, s6⟩, hIJ2⟩ := HQ6.out
            simp only at s1 s2 s3 s4 s5
            subst s1 s2 s3
            obtain ⟨ay, cy, rfl⟩ := s4.form
            obtain ⟨az, cz, rfl⟩ := s5.form
            have HS2 := Hid.mk' hIJ2
            have hn2 := q_next zeroIt HQ2.out
            have HQ3 := Hid.mk' hn2.2.2.2
            clear hIJ2 hn2
            go_wp2_with fail
            refine (qnext_some H4.swap HQ2.out (by omega) ⟨_, _, _, rfl⟩).mono ?_
            rintro e w5 ⟨rfl, H5⟩
            have H6 := H5.alloc #[.int .i64 yi, .int .i64 yk, .string yn, .slice ay sb.length cy] tItem
            go_wp2_with fail
            refine (mnext_some H6.pick3 HQ5.out ⟨_, _, _, rfl⟩ (by omega)).mono ?_
            rintro e w7 ⟨v7, hr7, rfl, H7⟩
            have H8 := H7.alloc #[.int .i64 yi, .int .i64 yk, .string yn, .slice az sb.length cz] tRItem
            obtain ⟨l8, n8, c8, z8⟩ := Holds.facts (H8)
            obtain ⟨l9, n9, c9, z9⟩ := Holds.facts (H8.pick3)
            go_wp2_with fail
            refine (same39_spec H8 s4 s5 s6).mono ?_
            rintro e w9 ⟨rfl, H9⟩
            go_wp2_with fail
            go_meet
            case rel =>
              refine ⟨R1, _, _, I, J, v7, added, ⟨q1.trans le1, HQ3.out, by rw [List.length_set]; exact q3, ?_, hr7, HS2.out, by simp only [List.length_cons] at q7; omega, by omega⟩, H9.drop.drop2⟩
              intro x hx
              rcases List.mem_or_eq_of_mem_set hx with h | h
              · exact HQ4.out x h
              · rw [h]; rfl
          | [], _ :: _, h => exact h.out.elim
          | _ :: _, [], h => exact h.out.elim
        · have t0 : (xk == 0) = false := by simpa using k0
          by_cases k9 : xk = 9
          · subst k9
            have HPL := Hid.mk' HQ6.out.plainL
            go_wp2_with fail
            refine (qclear_spec H4.swap HQ2.out (by omega) HPL.out).mono ?_
            rintro e w5 ⟨v5, X5, f5, rfl, hq5, hx5, ho5, H5⟩
            obtain ⟨R6, le6, H6, hr6⟩ := H5.freezeRow
            obtain ⟨a6, c6, rfl⟩ := hr6.form
            have HQ5b := Hid.mk' hq5
            have hba6 := le6.blk _ _ hba
            have HR6 := Hid.mk' hr6
            have ht : ((I.length : Int) != (J.length : Int)) = false := by rw [hIJ]; simp
            obtain ⟨n, hn⟩ : ∃ n, n = J.length := ⟨_, rfl⟩
            have hnI : I.length = n := by omega
            have HJ6 := Hid.mk' (Rd.le HQ5.out le6)
            have HS6 := Hid.mk' (HQ6.out.le le6)
            rw [← hn] at H6
            clear H4 H5 hq5 hr6 l4 n4 c4
            obtain ⟨l4, n4, c4, z4⟩ := Holds.facts (H6.swap)
            rw [hnI, ← hn] at ht
            rw [hnI]
            go_wp2_with fail
            go_loopw [78] (fun i wx => ∃ k : Nat, i = .int .i64 k ∧ k ≤ n ∧ Holds wx R6 (star (blk pm #[.slice am n cm, .int .i64 added] tRM) (star (queueA p X5 f5 0 added) emp))) (fun i _ => n - (intOf i).toNat)
            case atStart => exact ⟨0, rfl, Nat.zero_le _, H6.swap⟩
            case round =>
              clear H6 l4 n4 c4 z4
              obtain ⟨k, rfl, hk, H7⟩ := hrel
              by_cases hkn : k < n
              · obtain ⟨bi, oi, rfl, hxi⟩ := rd_elt (f := It.cells) It.cells_len HR6.out (by decide) (show k < I.length by omega)
                obtain ⟨bj, oj, rfl, hxj⟩ := rd_elt (f := It.cells) It.cells_len HJ6.out (by decide) (show k < J.length by omega)
                have hs := HS6.out.get k (by omega) (by omega)
                generalize I[k] = y at hxi hs
                generalize J[k] = z at hxj hs
                obtain ⟨yi, yk, yn, yv⟩ := y
                obtain ⟨zi, zk, zn, zv⟩ := z
                obtain ⟨s1, s2, s3, sb, s4, s5, s6⟩ := hs
                simp only at s1 s2 s3 s4 s5
                subst s1 s2 s3
                obtain ⟨ay, cy, rfl⟩ := s4.form
                obtain ⟨az, cz, rfl⟩ := s5.form
                have d0 : R6.cell? ⟨bi, oi + k * 4, none⟩ = some (.int .i64 yi) := hxi 0 _ (by omega) rfl
                have d1 : R6.cell? ⟨bi, oi + k * 4 + 1, none⟩ = some (.int .i64 yk) := hxi 1 _ (by omega) rfl
                have d2 : R6.cell? ⟨bi, oi + k * 4 + 2, none⟩ = some (.string yn) := hxi 2 _ (by omega) rfl
                have d3 : R6.cell? ⟨bi, oi + k * 4 + 3, none⟩ = some (.slice ay sb.length cy) := hxi 3 _ (by omega) rfl
                have g0 : R6.cell? ⟨bj, oj + k * 4, none⟩ = some (.int .i64 yi) := hxj 0 _ (by omega) rfl
                have g1 : R6.cell? ⟨bj, oj + k * 4 + 1, none⟩ = some (.int .i64 yk) := hxj 1 _ (by omega) rfl
                have g2 : R6.cell? ⟨bj, oj + k * 4 + 2, none⟩ = some (.string yn) := hxj 2 _ (by omega) rfl
                have g3 : R6.cell? ⟨bj, oj + k * 4 + 3, none⟩ = some (.slice az sb.length cz) := hxj 3 _ (by omega) rfl
                have hbi := Snap.some_blk d0
                have hbj := Snap.some_blk g0
                have ri := fun o => H7.rule bi o hbi
                have rj := fun o => H7.rule bj o hbj
                clear hxi hxj
                obtain ⟨l7, n7, c7, z7⟩ := Holds.facts (H7)
                go_wp2_with fail
                go_region_held3 (fun w' => (∀ o, w'.cell? ⟨pm, o, none⟩ = #[.slice (some ⟨bj, oj, none⟩) n cm, .int .i64 added][o]?) ∧ (∀ o, w'.cell? ⟨bi, o, none⟩ = R6.cell? ⟨bi, o, none⟩) ∧ (∀ o, w'.cell? ⟨bj, o, none⟩ = R6.cell? ⟨bj, o, none⟩)) (first | (exact And.intro H8.blkCell (And.intro (fun o => H8.rule bi o hbi) (fun o => H8.rule bj o hbj))) | ((repeat' (first | assumption | (with_reducible refine And.intro ?_ ?_) | (with_reducible refine keep_drew ?_) | (with_reducible refine keep_drewN ?_) | (with_reducible refine keep_alloc ?_ (by first | assumption | (simp only [World.size_alloc, World.size_drew, World.size_setCell]; omega))) | (with_reducible refine keep_set ?_ (by first | assumption | omega))))))
                  (first | (go_at_call 31; refine (same39_spec H7.drew s4 s5 s6).mono ?_; rintro e w8 ⟨rfl, H8⟩))
                all_goals
                  go_wp2_with fail
                  go_roundw
                  case rel => exact ⟨k + 1, by go_num, hkn, H8⟩
                  case measure => simp [intOf]; omega
              · obtain ⟨l7, n7, c7, z7⟩ := Holds.facts (H7)
                go_wp2_with fail
                go_meet
                case rel =>
                  exact ⟨R6, X5, f5, [], [], _, added, ⟨(q1.trans le1).trans le6, HQ5b.out, by omega, ho5 HQ4.out, RdB.nil, trivial, Nat.zero_le _, by omega⟩, H7.set 0 (.slice none 0 0)⟩
          · have t9 : (xk == 9) = false := by simpa using k9
            by_cases k8 : xk = 8
            · subst k8
              go_wp2_with fail
              go_region_held3 (fun w' => (∀ o, w'.cell? ⟨ba, o, none⟩ = #[.int .i64 8, .string xn, .slice ax xb.length cx][o]?)) (first | (exact H7.frz hba5) | (exact H6.frz hba5) | (exact H5.frz hba5) | ((repeat' (first | assumption | (with_reducible refine And.intro ?_ ?_) | (with_reducible refine keep_drew ?_) | (with_reducible refine keep_drewN ?_) | (with_reducible refine keep_alloc ?_ (by first | assumption | (simp only [World.size_alloc, World.size_drew, World.size_setCell]; omega))) | (with_reducible refine keep_set ?_ (by first | assumption | omega))))))
                (first | (go_at_call 32; refine (qpass_spec H4.drew.swap hxR hxb9 (by omega)).mono ?_; rintro e w5 ⟨R5, v5, le5, hr5, rfl, H5⟩; obtain ⟨a5, c5, rfl⟩ := hr5.form; have hba5 := le5.blk _ _ hba) | (go_at_call 33; refine (mpass_spec H5.swap (by omega)).mono ?_; rintro e w6 ⟨rfl, H6⟩) | (go_at_call 31; refine (same39_spec H6 hr5 (Rd.le hxR le5) hxb9).mono ?_; rintro e w7 ⟨rfl, H7⟩))
              all_goals
                go_wp2_with fail
                go_meet
                case rel => exact ⟨R5, X, first, I, J, _, added + 1, ⟨(q1.trans le1).trans le5, HQ2.out, q3, HQ4.out, Rd.le HQ5.out le5, HQ6.out.le le5, by omega, by omega⟩, H7⟩
            · have t8 : (xk == 8) = false := by simpa using k8
              go_wp2_with fail
              go_region_held3 (fun w' => (∀ o, w'.cell? ⟨ba, o, none⟩ = #[.int .i64 xk, .string xn, .slice ax xb.length cx][o]?)) (first | (exact H7.frz hba6) | (exact H6.frz hba6) | (exact H5.frz hba5) | ((repeat' (first | assumption | (with_reducible refine And.intro ?_ ?_) | (with_reducible refine keep_drew ?_) | (with_reducible refine keep_drewN ?_) | (with_reducible refine keep_alloc ?_ (by first | assumption | (simp only [World.size_alloc, World.size_drew, World.size_setCell]; omega))) | (with_reducible refine keep_set ?_ (by first | assumption | omega))))))
                (first | (go_at_call 25; refine (qadd_spec H4.drew.swap HQ2.out (by omega) HQ4.out hxR hxb9 (by omega)).mono ?_; rintro e w5 ⟨R5, v5, X5, f5, le5, hr5, rfl, hq5, ho5, hx5, H5⟩; obtain ⟨a5, c5, rfl⟩ := hr5.form; have hba5 := le5.blk _ _ hba) | (go_at_call 34; refine (madd_spec H5.swap (Rd.le HQ5.out le5) HP.out (by omega) (by omega)).mono ?_; rintro e w6 ⟨R6, v6, le6, hr6, rfl, H6⟩; have hba6 := le6.blk _ _ hba5) | (go_at_call 31; refine (same39_spec H6 (Rd.le hr5 le6) (Rd.le hxR (le5.trans le6)) hxb9).mono ?_; rintro e w7 ⟨rfl, H7⟩))
              all_goals
                go_wp2_with fail
                go_meet
                case rel =>
                  refine ⟨R6, X5, f5, I ++ [⟨added, xk, xn, .slice a5 xb.length c5⟩], J ++ [⟨added, xk, xn, .slice ax xb.length cx⟩], v6, added + 1, ⟨((q1.trans le1).trans le5).trans le6, ?_, by omega, ho5, ?_, ItsSame.snoc (show ItSame R6.cell? (⟨added, xk, xn, .slice a5 xb.length c5⟩ : It) ⟨added, xk, xn, .slice ax xb.length cx⟩ from ⟨rfl, rfl, rfl, xb, Rd.le hr5 le6, Rd.le hxR (le5.trans le6), hxb9⟩) (HQ6.out.le (le5.trans le6)), ?_, by omega⟩, ?_⟩
                  · rw [List.length_append]; exact hq5
                  · rw [List.length_append]; exact hr6
                  · rw [List.length_append, List.length_singleton]; omega
                  · rw [List.length_append]; exact H7
      case rest =>
        clear H4 HQ2 HQ4 HQ5 HQ6 q3 q7 q8 q9
        obtain ⟨R2, X2, f2, I2, J2, vm2, added2, hQ2, H5⟩ := hcut
        have hIJ := hQ2.same.length
        obtain ⟨a2, c2, rfl⟩ := hQ2.rd.form
        have HQI := Hid.mk' hQ2
        have ql : ∀ q, Calls Try.prog 28 #[.pointer (some ⟨p, 0, none⟩)] (wc.drewN q) fun e w' => e = .returned (.int .i64 J2.length) ∧ w' = wc.drewN q := fun q => by
          rw [← hIJ]; exact (qlen_spec (H5.swap.drewN q)).mono fun e w' h => ⟨h.1, h.2.symm⟩
        obtain ⟨l6, n6, c6, z6⟩ := Holds.facts (H5)
        clear hQ2 hIJ
        go_wp2_with fail
        go_quiet ((go_at_call 28; exact Calls.quiet_of_same (ql _)))
        go_wp2_with fail
        go_roundw
        case rel => exact ⟨j + 1, R2, X2, f2, I2, J2, _, added2, by go_num, hlt, HQI.out, H5.drewN _⟩
        case measure => simp [intOf]; omega
    · go_wp2_with fail
      refine (alive39 H3).mono ?_
      rintro e w4 ⟨rfl, H4⟩
      go_wp2_with fail
      go_ret
      exact ⟨rfl, hp ▸ H4.toBelow hQ.le⟩
end Sh
