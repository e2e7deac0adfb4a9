/- The tape's laws: the walks. -/
import Derived.Test.YtkidicpoifmbnaaTapeRef
set_option linter.unusedVariables false
set_option linter.unusedSimpArgs false
namespace Sh
open Go Go.RowKit Go.Proofs
attribute [local go_sem ↓] Go.wp_at_zero Go.wp_at_succ
set_option maxHeartbeats 1000000
set_option maxRecDepth 100000

def u0 : TU := ⟨0, 0, 0, ByteArray.empty, 0, 0, 0, 0⟩
def u1 : TU := ⟨1, 0, 0, ByteArray.empty, 0, 0, 0, 0⟩
theorem alive26 {w : World} {R : Snap} {L : Asrt} (H : Holds w R L) : Calls Try.prog 5 #[] w fun e w' => e = .returned (.bool true) ∧ Holds w' R L := by
  go_enter Try.func5, Try.ntmps5
  go_wp2_with fail
  have H1 : Holds _ R (star (rowB _ [1, 2, 3]) L) := (H.alloc #[.int .u8 1, .int .u8 2, .int .u8 3] tU8).toRow 1 3 3 (Nat.le_refl _) (by simp [maxLen]) rfl
  refine (new_spec H1 H1.rowRd (by simp)).mono ?_
  rintro e w1 ⟨p, rfl, H2⟩
  have H2 := H2.drop2
  go_wp2_with fail
  refine (draw_yes (m := 2) (k := 2) (u := u0) H2 (by decide) (by decide) (by decide) (by decide) (by decide)).mono ?_
  rintro e w2 ⟨v2, rfl, H3⟩
  have H3 : Holds w2 R (star (tapeA p [1, 2, 3] 2 [⟨u0, 0, 2⟩]) L) := H3.drop
  go_wp2_with fail
  refine (draw_no (m := 2) (u := u0) H3 (by decide) (by decide) (by decide)).mono ?_
  rintro e w3 ⟨rfl, H4⟩
  go_wp2_with fail
  refine (draw_yes (m := 1) (k := 1) (u := u1) H4 (by decide) (by decide) (by decide) (by decide) (by decide)).mono ?_
  rintro e w4 ⟨v4, rfl, H5⟩
  have H5 : Holds w4 R (star (rowB v4 [3]) (star (tapeA p [1, 2, 3] 3 [⟨u0, 0, 2⟩, ⟨u1, 2, 1⟩]) L)) := H5
  go_wp2_with fail
  refine (all_spec H5.swap (by decide)).mono ?_
  rintro e w5 ⟨v5, rfl, H6⟩
  have H6 : Holds w5 R (star (row 41 10 v5 2 (tds [⟨u0, 0, 2⟩, ⟨u1, 2, 1⟩])) (star (rowB v4 [3]) L)) := H6.drop2
  obtain ⟨R7, hle, H7, h5⟩ := H6.freezeRow
  obtain ⟨a5, c5, rfl⟩ := h5.form
  obtain ⟨b5, o5, rfl, hc5⟩ := h5.open (by decide)
  clear H H1 H2 H3 H4 H5 H6
  go_wp2_with fail
  have H8 := H7.alloc #[.int .u8 3] tU8
  have hx : RdB _ v4 [3] := H8.swap.rowRd
  have hy : RdB _ _ [3] := (H8.toRow 1 1 1 (Nat.le_refl _) (by simp [maxLen]) rfl).rowRd
  refine (same_spec hx hy (by decide) (by decide)).mono ?_
  rintro e w6 ⟨rfl, q, hw6⟩
  have H9 := (hw6 ▸ H8.drewN q).drop.drop
  clear hw6 H8 H7 hx hy
  have i0 := h5.bounds
  have i1 : (2 : Int) ≤ c5 := by omega
  have c1 : w6.cell? ⟨b5, o5 + 18, none⟩ = some (.int .i64 2) := H9.cell (hc5 18 _ rfl)
  have c2 : w6.cell? ⟨b5, o5 + 10, none⟩ = some (.int .i64 1) := H9.cell (hc5 10 _ rfl)
  clear hc5 h5 i0
  go_wp2_with fail
  go_ret
  exact ⟨rfl, H9.weaken hle⟩

structure Act26 where
  n : Int
  node : Int
  name : ByteArray
instance : Inhabited Act26 := ⟨⟨0, 0, ByteArray.empty⟩⟩
def Act26.cells (a : Act26) : List Value := [.int .i64 a.n, .int .i64 a.node, .string a.name]
def acts26 (l : List Act26) : List Value := l.flatMap Act26.cells

theorem tapeDraws_walk (W : World) {vb vl : Value} {b : List UInt8} {l : List Act26} (hb : RdB W.cell? vb b) (hl : Rd W.cell? 3 vl l.length (acts26 l)) :
    Calls Try.prog 3 #[vb, vl] W fun e w' => e = .returned (.bool true) ∧ Below W.heap.size W w' := by
  obtain ⟨ab, cb, rfl⟩ := hb.form
  obtain ⟨al, cl, rfl⟩ := hl.form
  by_cases hg : b.length ≤ 300 ∧ l.length ≤ 60
  · obtain ⟨g1, g2⟩ := hg
    have t1 : (decide ((300 : Int) < b.length)) = false := by simp; omega
    have t2 : (decide ((60 : Int) < l.length)) = false := by simp; omega
    go_enter Try.func3, Try.ntmps3
    go_wp2_with fail
    refine (new_spec (Holds.start W) hb (by omega)).mono ?_
    rintro e w1 ⟨p, rfl, H1⟩
    go_wp2_with fail
    have H2 := (H1.alloc #[.slice ab b.length cb, .int .i64 0] 29).nilRow 41 10
    clear H1
    generalize (World.alloc _ _) = w2 at H2 ⊢
    generalize w1.heap.size = pm at H2 ⊢
    go_loopw [7, 34] (fun want i wr => ∃ (j a : Nat) (D : List TD), i = .int .i64 j ∧ j ≤ l.length ∧ a ≤ b.length ∧ D.length ≤ j ∧ Holds wr (Snap.of W) (star (row 41 10 want D.length (tds D)) (star (blk pm #[.slice ab b.length cb, .int .i64 a] 29) (star (tapeA p b a D) emp)))) (fun _ i _ => l.length - (intOf i).toNat)
    case atStart => exact ⟨0, 0, [], rfl, Nat.zero_le _, Nat.zero_le _, Nat.le_refl _, H2⟩
    case round =>
      obtain ⟨j, a, D, rfl, hj, ha, hD, H3⟩ := hrel
      by_cases hlt : j < l.length
      · obtain ⟨bl, ol, rfl, hcl⟩ := hl.open (by omega)
        have hx : ∀ r u, r < 3 → l[j].cells[r]? = some u → wr.cell? ⟨bl, ol + (j * 3 + r), none⟩ = some u := fun r u hr hu => H3.cell (R := Snap.of W) (hcl (j * 3 + r) u (by rw [acts26, flat_get _ 3 (fun _ => rfl) _ _ _ hlt hr]; exact hu))
        generalize l[j] = x at hx
        have c0 : wr.cell? ⟨bl, ol + j * 3, none⟩ = some (.int .i64 x.n) := hx 0 _ (by omega) rfl
        have c1 : wr.cell? ⟨bl, ol + j * 3 + 1, none⟩ = some (.int .i64 x.node) := hx 1 _ (by omega) rfl
        have c2 : wr.cell? ⟨bl, ol + j * 3 + 2, none⟩ = some (.string x.name) := hx 2 _ (by omega) rfl
        clear hx
        go_upto_region 9 with fail
        have H4 := (H3.alloc #[.int .i64 x.n, .int .i64 x.node, .string x.name] 32).alloc #[.int .i64 (1 + (j : Int) % 3), .int .i64 x.node, .int .i64 j, .string x.name, .int .i64 0, .int .i64 0, .int .i64 0, .int .i64 0] 34
        simp only [World.size_alloc] at H4
        clear c0 c1 c2 H3
        generalize (World.alloc (World.alloc _ _) _) = w4 at H4 ⊢
        generalize wr.heap.size + 1 = bu at H4 ⊢
        generalize wr.heap.size = ba at H4 ⊢
        obtain ⟨R1, le1, H5, hbu⟩ := H4.freezeBlk
        obtain ⟨R2, le2, H6, hba⟩ := H5.freezeBlk
        have hbu := le2.blk _ _ hbu
        have leS := le1.trans le2
        clear H4 H5 le1 le2
        have ca := H6.frz hba
        have cu := H6.frz hbu
        have cp := H6.swap.blkCell
        have hbR : RdB R2.cell? (.slice ab b.length cb) b := Rd.le (R := Snap.of W) hb leS
        by_cases hk : (b.length : Int) - a < max x.n 0
        · go_wp2_with fail
          refine (draw_no (u := ⟨1 + (j : Int) % 3, x.node, j, x.name, 0, 0, 0, 0⟩) H6.pick3 ha (by omega) hk).mono ?_
          rintro e w5 ⟨rfl, H7⟩
          have ca := H7.frz hba
          have cu := H7.frz hbu
          have cp := H7.pick3.blkCell
          go_wp2_with fail
          refine (mdraw_no H7.pick3 hbR ha (by omega) hk).mono ?_
          rintro e w6 ⟨rfl, H8⟩
          have ca := H8.frz hba
          have cu := H8.frz hbu
          have cp := H8.blkCell
          go_wp2_with fail
          go_quiet (first | (go_at_call 9; exact Calls.quiet_of (same_yes (l := []) Rd.nil Rd.nil (by decide))) | (go_at_call 10; exact Calls.quiet_of (left_tape (H8.swap.drewN _) ha (by omega))))
          go_wp2_with fail
          go_roundw
          case rel => exact ⟨j + 1, a, D, by go_num, hlt, ha, by omega, ((H8.drewN _).weaken leS).ac (by ac_rfl)⟩
          case measure => simp [intOf]; omega
        · obtain ⟨k, hkm⟩ : ∃ k : Nat, (k : Int) = max x.n 0 := ⟨(max x.n 0).toNat, by omega⟩
          have hka : a + k ≤ b.length := by omega
          have HK := Hid.mk' hkm
          clear hk hkm
          go_wp2_with fail
          refine (draw_yes (u := ⟨1 + (j : Int) % 3, x.node, j, x.name, 0, 0, 0, 0⟩) H6.pick3 ha (by omega) HK.out hka (by omega)).mono ?_
          rintro e w5 ⟨v5, rfl, H7⟩
          have ca := H7.frz hba
          have cu := H7.frz hbu
          have cp := H7.pick4.blkCell
          go_wp2_with fail
          refine (mdraw_yes H7.pick4 hbR ha (by omega) HK.out hka).mono ?_
          rintro e w6 ⟨v6, rfl, H8⟩
          have ca := H8.frz hba
          have cu := H8.frz hbu
          obtain ⟨a2, ha2⟩ : ∃ a2, a2 = a + k := ⟨_, rfl⟩
          rw [← ha2] at H8
          have HA := Hid.mk' ha2
          have hle : a2 ≤ b.length := by omega
          have hle0 : a ≤ a2 := by omega
          have cp := H8.swap.blkCell
          clear ha2 hka ha H6 H7
          go_wp2_with fail
          go_quiet (first | (go_at_call 9; exact Calls.quiet_of (same_yes (l := (b.drop a).take k) H8.pick3.rowRd H8.rowRd (by simp; omega))) | (go_at_call 10; exact Calls.quiet_of (left_tape (H8.pick4.drewN _) hle (by omega))))
          go_wp2_with fail
          have H9 : Holds _ R2 (star (row 41 10 u7 D.length (tds D)) (star (blk pm #[.slice ab b.length cb, .int .i64 a2] 29) (star (tapeA p b a2 (D ++ [⟨⟨1 + (j : Int) % 3, x.node, j, x.name, 0, 0, 0, 0⟩, a, k⟩])) emp))) := (H8.drop.pick4.ac (B := star (rowB v5 _) (star (row 41 10 u7 D.length (tds D)) (star (blk pm _ _) (star (tapeA p b a2 _) emp)))) (by ac_rfl)).drop.drewN nq
          clear H8 cp cu ca
          generalize (World.drewN _ _) = w7 at H9 ⊢
          have cu := H9.frz hbu
          have cp := H9.swap.blkCell
          have ltu := H9.frzLt hbu
          have ltp := H9.swap.blkLt
          have neu : w7.heap.size ≠ bu := by omega
          have nep : w7.heap.size ≠ pm := by omega
          have e1 : IntKind.i64.wrap ((a2 : Int) - a) = k := by rw [IntWalk.i64_in _ (by omega)]; have := HA.out; omega
          have H10 := (H9.alloc #[.int .i64 (1 + (j : Int) % 3), .int .i64 x.node, .int .i64 j, .string x.name, .int .i64 0, .int .i64 0, .int .i64 0, .int .i64 0, .int .i64 a, .int .i64 k] 41).drew
          have hr10 : Rd _ 10 _ 1 _ := (H10.toRow 10 1 1 (Nat.le_refl _) (by simp [maxLen]) rfl).rowRd
          go_region_held3 (fun w' => (∀ o, w'.cell? ⟨bu, o, none⟩ = #[.int .i64 (1 + (j : Int) % 3), .int .i64 x.node, .int .i64 j, .string x.name, .int .i64 0, .int .i64 0, .int .i64 0, .int .i64 0][o]?) ∧ (∀ o, w'.cell? ⟨pm, o, none⟩ = #[.slice ab b.length cb, Value.int .i64 a2][o]?)) (first | (exact ⟨H11.frz hbu, H11.swap.blkCell⟩) | ((repeat' (first | assumption | (with_reducible refine And.intro ?_ ?_) | (with_reducible refine keep_drew ?_) | (with_reducible refine keep_drewN ?_) | (with_reducible refine keep_alloc ?_ (by first | assumption | (simp only [World.size_alloc, World.size_drew, World.size_setCell]; omega))) | (with_reducible refine keep_set ?_ (by first | assumption | omega)))))) ((refine step_append rfl _ _ (by rfl) undDrawns infoDrawn rfl (by decide) (by rfl) (by rfl) H10.drop hr10 (by simp [Value.oneCell']) (by simp [maxLen]; omega) (by omega) ?_; intro v11 w11 H11))
          all_goals
            go_wp2_with fail
            go_roundw
            case rel =>
              refine ⟨j + 1, a2, D ++ [⟨⟨1 + (j : Int) % 3, x.node, j, x.name, 0, 0, 0, 0⟩, a, k⟩], by go_num, hlt, hle, by simp; omega, ?_⟩
              have H12 := H11.weaken leS
              rw [show tds (D ++ [⟨⟨1 + (j : Int) % 3, x.node, j, x.name, 0, 0, 0, 0⟩, a, k⟩]) = tds D ++ List.take (1 * 10) [.int .i64 (1 + (j : Int) % 3), .int .i64 x.node, .int .i64 j, .string x.name, .int .i64 0, .int .i64 0, .int .i64 0, .int .i64 0, .int .i64 a, .int .i64 k] from by simp [tds, TD.cells, TU.arr]]
              rw [List.length_append, List.length_singleton]
              exact H12
            case measure => simp [intOf]; omega
      · go_wp2_with fail
        refine (all_spec H3.pick3 (by omega)).mono ?_
        rintro e w4 ⟨v4, rfl, H4⟩
        obtain ⟨R5, le5, H5, hv4⟩ := H4.freezeRow
        obtain ⟨R6, le6, H6, hwant⟩ := H5.swap.freezeRow
        have hv4 := Rd.le hv4 le6
        have leS := le5.trans le6
        obtain ⟨a4, c4, rfl⟩ := hv4.form
        obtain ⟨aw, cw, rfl⟩ := hwant.form
        clear H3 H4 H5 le5 le6
        have t4 : ((D.length : Int) != (D.length : Int)) = false := by simp
        go_wp2_with fail
        go_loopw [111] (fun i wr => ∃ k : Nat, i = .int .i64 k ∧ k ≤ D.length ∧ Holds wr R6 (star (tapeA p b a D) (star (blk pm #[.slice ab b.length cb, .int .i64 a] 29) emp))) (fun i _ => D.length - (intOf i).toNat)
        case atStart => exact ⟨0, rfl, Nat.zero_le _, H6.ac (by ac_rfl)⟩
        case round =>
          obtain ⟨k, rfl, hk, H7⟩ := hrel
          by_cases hlt : k < D.length
          · obtain ⟨b4, o4, rfl, h4⟩ := hv4.open (by omega)
            obtain ⟨bw, ow, rfl, hw⟩ := hwant.open (by omega)
            have hx : ∀ r u, r < 10 → D[k].cells[r]? = some u → wr.cell? ⟨b4, o4 + (k * 10 + r), none⟩ = some u ∧ wr.cell? ⟨bw, ow + (k * 10 + r), none⟩ = some u := fun r u hr hu => by
              have e : (tds D)[k * 10 + r]? = some u := by rw [tds, flat_get _ 10 (fun _ => rfl) _ _ _ hlt hr]; exact hu
              exact ⟨H7.cell (h4 _ _ e), H7.cell (hw _ _ e)⟩
            generalize D[k] = d at hx
            have x0 : wr.cell? ⟨b4, o4 + k * 10, none⟩ = some _ ∧ wr.cell? ⟨bw, ow + k * 10, none⟩ = some _ := hx 0 _ (by omega) rfl
            have x1 : wr.cell? ⟨b4, o4 + k * 10 + 1, none⟩ = some _ ∧ wr.cell? ⟨bw, ow + k * 10 + 1, none⟩ = some _ := hx 1 _ (by omega) rfl
            have x2 : wr.cell? ⟨b4, o4 + k * 10 + 2, none⟩ = some _ ∧ wr.cell? ⟨bw, ow + k * 10 + 2, none⟩ = some _ := hx 2 _ (by omega) rfl
            have x3 : wr.cell? ⟨b4, o4 + k * 10 + 3, none⟩ = some _ ∧ wr.cell? ⟨bw, ow + k * 10 + 3, none⟩ = some _ := hx 3 _ (by omega) rfl
            have x4 : wr.cell? ⟨b4, o4 + k * 10 + 4, none⟩ = some _ ∧ wr.cell? ⟨bw, ow + k * 10 + 4, none⟩ = some _ := hx 4 _ (by omega) rfl
            have x5 : wr.cell? ⟨b4, o4 + k * 10 + 5, none⟩ = some _ ∧ wr.cell? ⟨bw, ow + k * 10 + 5, none⟩ = some _ := hx 5 _ (by omega) rfl
            have x6 : wr.cell? ⟨b4, o4 + k * 10 + 6, none⟩ = some _ ∧ wr.cell? ⟨bw, ow + k * 10 + 6, none⟩ = some _ := hx 6 _ (by omega) rfl
            have x7 : wr.cell? ⟨b4, o4 + k * 10 + 7, none⟩ = some _ ∧ wr.cell? ⟨bw, ow + k * 10 + 7, none⟩ = some _ := hx 7 _ (by omega) rfl
            have x8 : wr.cell? ⟨b4, o4 + k * 10 + 8, none⟩ = some _ ∧ wr.cell? ⟨bw, ow + k * 10 + 8, none⟩ = some _ := hx 8 _ (by omega) rfl
            have x9 : wr.cell? ⟨b4, o4 + k * 10 + 9, none⟩ = some _ ∧ wr.cell? ⟨bw, ow + k * 10 + 9, none⟩ = some _ := hx 9 _ (by omega) rfl
            clear hx
            go_wp2_with fail
            go_quiet (fail)
            go_wp2_with fail
            go_roundw
            case rel => exact ⟨k + 1, by go_num, hlt, H7.drewN _⟩
            case measure => simp [intOf]; omega
          · go_wp2_with fail
            refine (alive26 H7).mono ?_
            rintro e w' ⟨rfl, H8⟩
            go_wp2_with fail
            go_ret
            exact ⟨rfl, H8.toBelow leS⟩
  · have fin : Calls Try.prog 5 #[] W fun e w' => e = .returned (.bool true) ∧ Below W.heap.size W w' := (alive26 (Holds.start W)).mono fun e w' h => ⟨h.1, h.2.toBelow (Snap.le.refl _)⟩
    go_enter Try.func3, Try.ntmps3
    by_cases hb1 : (300 : Int) < b.length
    · have t1 : (decide ((300 : Int) < b.length)) = true := by simp; omega
      go_wp2_with fail
      refine fin.mono ?_
      rintro e w' ⟨rfl, h⟩
      go_wp2_with fail
      go_ret
      exact ⟨rfl, h⟩
    · have t1 : (decide ((300 : Int) < b.length)) = false := by simp; omega
      have t2 : (decide ((60 : Int) < l.length)) = true := by simp; omega
      go_wp2_with fail
      refine fin.mono ?_
      rintro e w' ⟨rfl, h⟩
      go_wp2_with fail
      go_ret
      exact ⟨rfl, h⟩
end Sh
