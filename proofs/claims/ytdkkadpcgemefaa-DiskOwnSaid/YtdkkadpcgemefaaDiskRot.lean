/- (*disk.Disk).Rot. -/
import Derived.Test.YtdkkadpcgemefaaDiskRead
import Derived.Test.YtdkkadpcgemefaaTurn
set_option linter.unusedVariables false
set_option linter.unusedSimpArgs false
namespace Sh
open Go Go.RowKit Go.Proofs
attribute [local go_sem ↓] Go.wp_at_zero Go.wp_at_succ
set_option maxHeartbeats 1000000
set_option maxRecDepth 100000

def rotOk (n : Nat) (i bit : Int) : Bool := decide (0 ≤ i ∧ i < n ∧ 0 ≤ bit)
def rotS (S : List (List UInt8)) (i bit : Int) (mask : Reg) : List (List UInt8) := if rotOk S.length i bit = true then S.set i.toNat (turnL (secAt S i) bit mask) else S
theorem map_set_self {q : List (Value × List UInt8)} {k : Nat} {h : k < q.length} : (q.map (·.1)).set k q[k].1 = q.map (·.1) := by
  apply List.ext_getElem
  · simp
  · intro i h1 h2
    rw [List.getElem_set]
    split
    · rename_i e; subst e; simp
    · rfl
theorem drot_spec {w : World} {R : Snap} {L : Asrt} {p : Nat} {S : List (List UInt8)} {left : Int} {dead : Bool} {i bit : Int} {mask : Reg} (H : Holds w R (star (diskS p S left dead) L)) (hS : ∀ s ∈ S, s.length = 64) (hbit : bit ≤ 9223372036854775807) :
    Calls Try.prog 92 #[.pointer (some ⟨p, 0, none⟩), .int .i64 i, .int .i64 bit, .int .u32 (tn mask)] w fun e w' => e = .returned (.bool (rotOk S.length i bit)) ∧ Holds w' R (star (diskS p (rotS S i bit mask) left dead) L) := by
  by_cases h0 : 0 ≤ i ∧ i < S.length
  · have t0 : decide (0 ≤ i ∧ i < S.length) = true := by simpa using h0
    by_cases hb0 : 0 ≤ bit
    · have e0 : rotOk S.length i bit = true := by simp only [rotOk, decide_eq_true_eq]; exact ⟨h0.1, h0.2, hb0⟩
      rw [rotS, if_pos e0, e0]
      clear e0
      obtain ⟨k, rfl⟩ : ∃ k : Nat, i = k := ⟨i.toNat, by omega⟩
      have hk : k < S.length := by omega
      rw [Int.toNat_natCast]
      have hsec : (secAt S k).length = 64 := by rw [secAt_nat, List.getD, List.getElem?_eq_getElem hk]; exact hS _ (List.getElem_mem hk)
      go_enter Try.func92, Try.ntmps92
      go_wp2_with fail
      refine (there_spec H).mono ?_
      rintro e w1 ⟨rfl, rfl⟩
      rw [t0]
      obtain ⟨q, a, c, hq, H1⟩ := disk_open H
      have hkq : k < q.length := by rw [← hq] at hk; simpa using hk
      have hqk : q[k].2 = secAt S k := by rw [secAt_nat, ← hq]; simp [List.getD, hkq]
      obtain ⟨g, cg, ha, hcg, hg, hcell, hfro⟩ := H1.swap.rowAt (by omega)
      simp only [Value.slice.injEq, true_and] at ha
      obtain ⟨rfl, rfl⟩ := ha
      have ck := hcell k q[k].1 (by simp [hkq])
      have H2 := H1
      rw [bytesAll_at hkq] at H2
      have H3 : Holds w R (star (rowB q[k].1 q[k].2) (star (blk p #[.slice (some ⟨g, 0, none⟩) q.length c, .int .i64 left, .bool dead] 216) (star (row tBytes 1 (.slice (some ⟨g, 0, none⟩) q.length c) q.length (q.map (·.1))) (star (star (bytesAll (q.take k)) (bytesAll (q.drop (k + 1)))) L)))) := H2.ac (by ac_rfl)
      rw [hqk] at H3
      obtain ⟨gv, cv, hv, _⟩ := H3.rowAt (by omega)
      have HQ := Hid.mk' hq
      have HV := Hid.mk' hv
      have hv2 : q[k].1 = .slice (some ⟨gv, 0, none⟩) 64 cv := by rw [hv, hsec]
      have HV2 := Hid.mk' hv2.symm
      rw [hv2] at ck H3
      have i1 : (k : Int) < q.length := by omega
      obtain ⟨l1, n1, c1, z1⟩ := Holds.facts (H1)
      clear hcell hfro hq hqk H2 hv hv2 h0 t0
      go_wp2_with fail
      clear l1 n1 c1 z1 ck H1 H
      obtain ⟨b, hb⟩ : ∃ b, b = secAt S k := ⟨_, rfl⟩
      have HB := Hid.mk' hb
      rw [← hb] at H3 hsec
      clear hb
      go_loopw [10] (fun i wx => ∃ (j : Nat), i = .int .i64 j ∧ j ≤ 32 ∧ Holds wx R (star (row tU8 1 (.slice (some ⟨gv, 0, none⟩) 64 cv) 64 (u8s (turnN b bit mask j))) (star (blk p #[.slice (some ⟨g, 0, none⟩) q.length c, .int .i64 left, .bool dead] 216) (star (row tBytes 1 (.slice (some ⟨g, 0, none⟩) q.length c) q.length (q.map (·.1))) (star (star (bytesAll (q.take k)) (bytesAll (q.drop (k + 1)))) L))))) (fun i _ => 32 - (intOf i).toNat)
      case atStart => exact ⟨0, rfl, Nat.zero_le _, by have h := H3; unfold rowB at h; rw [hsec] at h; exact h⟩
      case round =>
        clear H3
        obtain ⟨j, rfl, hj, H6⟩ := hrel
        have hxl := turnN_len b bit mask j
        rw [hsec] at hxl
        by_cases hlt : j < 32 ∧ bit < 512 - j
        · obtain ⟨hlt32, hlt⟩ := hlt
          have hs : tn mask / (2 : Int) ^ j = tn (mask >>> j) := shr32 mask j
          have ha := and1 (mask >>> j)
          have hsk : ¬ ((mask >>> j).getLsbD 0 = true ∧ 0 ≤ bit ∧ bit ≤ 8 * (b.length : Int) - 1 - j) → turnN b bit mask (j + 1) = turnN b bit mask j := turnN_skip
          have hgo : ((mask >>> j).getLsbD 0 = true ∧ 0 ≤ bit ∧ bit ≤ 8 * (b.length : Int) - 1 - j) → turnN b bit mask (j + 1) = _ := turnN_go
          obtain ⟨x, hx⟩ : ∃ x, x = turnN b bit mask j := ⟨_, rfl⟩
          rw [← hx] at hxl H6 hsk hgo
          clear hx
          have HSK := Hid.mk' hsk
          have HGO := Hid.mk' hgo
          clear hsk hgo
          by_cases hm0 : (mask >>> j).getLsbD 0 = true
          · have hgo := HGO.out ⟨hm0, hb0, by rw [hsec]; omega⟩
            rw [hm0, if_pos rfl] at ha
            obtain ⟨f, rfl⟩ : ∃ f : Nat, bit = f := ⟨bit.toNat, by omega⟩
            obtain ⟨m, hm⟩ : ∃ m, m = f + j := ⟨_, rfl⟩
            obtain ⟨kk, hkk⟩ : ∃ kk, kk = m / 8 := ⟨_, rfl⟩
            obtain ⟨r, hrr⟩ : ∃ r, r = m % 8 := ⟨_, rfl⟩
            have hat : (f : Int) + (j : Int) = (m : Int) := by omega
            have hwm : IntKind.i64.wrap (m : Int) = (m : Int) := IntWalk.i64_in _ (by omega)
            have hq : (m : Int).tdiv 8 = (kk : Int) := by rw [Int.tdiv_eq_ediv_of_nonneg (by omega)]; omega
            have hrm : (m : Int).tmod 8 = (r : Int) := by rw [Int.tmod_eq_emod_of_nonneg (by omega)]; omega
            have hkl : kk < 64 := by omega
            have hr8 : r < 8 := by omega
            rw [Int.toNat_natCast, ← hm, ← hkk, ← hrr] at hgo
            have HGO2 := Hid.mk' hgo
            have hlt2 : (f : Int) < 512 - j := hlt
            clear hm0 hm hkk hrr hgo HGO HSK hlt
            obtain ⟨g2, cap, e1, hc, hg2, hcl, hfz⟩ := H6.rowAt (by omega)
            simp only [Value.slice.injEq, true_and] at e1
            obtain ⟨e1, rfl⟩ := e1
            simp only [Option.some.injEq, Addr.mk.injEq, and_true] at e1
            subst e1
            have hkx : kk < x.length := by rw [hxl]; exact hkl
            have ck := hcl kk (.int .u8 (x[kk].toNat : Int)) (by rw [u8s, List.getElem?_map, List.getElem?_eq_getElem hkx]; rfl)
            have fk := hfz kk
            have hy : x.getD kk 0 = x[kk] := by rw [List.getD_eq_getElem?_getD, List.getElem?_eq_getElem hkx]; rfl
            have hz := flip_exact (x.getD kk 0) r hr8
            rw [← hy] at ck
            have hgo := HGO2.out
            generalize x.getD kk 0 = y at hz ck hgo
            generalize flipB y r = z at hz hgo
            have HGO3 := Hid.mk' hgo
            have i1 : (0 : Int) ≤ (kk : Int) := by omega
            have i2 : (kk : Int) < 64 := by omega
            have wk : IntKind.i64.wrap (kk : Int) = (kk : Int) := IntWalk.i64_in _ (by omega)
            clear hcl hfz hy hgo HGO2
            have hfin : ∀ w', w' = wr.drew.setCell ⟨gv, kk, none⟩ (.int .u8 (z.toNat : Int)) → Holds w' R (star (row tU8 1 (.slice (some ⟨gv, 0, none⟩) 64 cv) 64 (u8s (turnN b (f : Int) mask (j + 1)))) (star (blk p #[.slice (some ⟨g, 0, none⟩) q.length c, .int .i64 left, .bool dead] 216) (star (row tBytes 1 (.slice (some ⟨g, 0, none⟩) q.length c) q.length (q.map (·.1))) (star (star (bytesAll (q.take k)) (bytesAll (q.drop (k + 1)))) L)))) := by
              rintro w' rfl
              rw [HGO3.out]
              have h := row_write H6.drew kk (z.toNat : Int) hkl (by have := u8_lt z; omega)
              rw [Int.toNat_natCast, show UInt8.ofNat z.toNat = z by simp] at h
              exact h
            have HF := Hid.mk' hfin
            clear hfin
            rcases (by omega : r = 0 ∨ r = 1 ∨ r = 2 ∨ r = 3 ∨ r = 4 ∨ r = 5 ∨ r = 6 ∨ r = 7) with rfl | rfl | rfl | rfl | rfl | rfl | rfl | rfl
            · have hz2 : bits .xor .u8 (y.toNat : Int) 1 = (z.toNat : Int) := hz
              clear hz
              go_wp2_with fail
              go_still_tail 14, (by kernel_rfl)
              change wpList _ _ _ _ _ wr.drew
              go_wp2_with fail
              go_roundw
              case rel => exact ⟨j + 1, by go_num, hlt32, HF.out _ rfl⟩
              case measure => simp [intOf]; omega
            · have hz2 : bits .xor .u8 (y.toNat : Int) 2 = (z.toNat : Int) := hz
              clear hz
              go_wp2_with fail
              go_still_tail 14, (by kernel_rfl)
              change wpList _ _ _ _ _ wr.drew
              go_wp2_with fail
              go_roundw
              case rel => exact ⟨j + 1, by go_num, hlt32, HF.out _ rfl⟩
              case measure => simp [intOf]; omega
            · have hz2 : bits .xor .u8 (y.toNat : Int) 4 = (z.toNat : Int) := hz
              clear hz
              go_wp2_with fail
              go_still_tail 14, (by kernel_rfl)
              change wpList _ _ _ _ _ wr.drew
              go_wp2_with fail
              go_roundw
              case rel => exact ⟨j + 1, by go_num, hlt32, HF.out _ rfl⟩
              case measure => simp [intOf]; omega
            · have hz2 : bits .xor .u8 (y.toNat : Int) 8 = (z.toNat : Int) := hz
              clear hz
              go_wp2_with fail
              go_still_tail 14, (by kernel_rfl)
              change wpList _ _ _ _ _ wr.drew
              go_wp2_with fail
              go_roundw
              case rel => exact ⟨j + 1, by go_num, hlt32, HF.out _ rfl⟩
              case measure => simp [intOf]; omega
            · have hz2 : bits .xor .u8 (y.toNat : Int) 16 = (z.toNat : Int) := hz
              clear hz
              go_wp2_with fail
              go_still_tail 14, (by kernel_rfl)
              change wpList _ _ _ _ _ wr.drew
              go_wp2_with fail
              go_roundw
              case rel => exact ⟨j + 1, by go_num, hlt32, HF.out _ rfl⟩
              case measure => simp [intOf]; omega
            · have hz2 : bits .xor .u8 (y.toNat : Int) 32 = (z.toNat : Int) := hz
              clear hz
              go_wp2_with fail
              go_still_tail 14, (by kernel_rfl)
              change wpList _ _ _ _ _ wr.drew
              go_wp2_with fail
              go_roundw
              case rel => exact ⟨j + 1, by go_num, hlt32, HF.out _ rfl⟩
              case measure => simp [intOf]; omega
            · have hz2 : bits .xor .u8 (y.toNat : Int) 64 = (z.toNat : Int) := hz
              clear hz
              go_wp2_with fail
              go_still_tail 14, (by kernel_rfl)
              change wpList _ _ _ _ _ wr.drew
              go_wp2_with fail
              go_roundw
              case rel => exact ⟨j + 1, by go_num, hlt32, HF.out _ rfl⟩
              case measure => simp [intOf]; omega
            · have hz2 : bits .xor .u8 (y.toNat : Int) 128 = (z.toNat : Int) := hz
              clear hz
              go_wp2_with fail
              go_still_tail 14, (by kernel_rfl)
              change wpList _ _ _ _ _ wr.drew
              go_wp2_with fail
              go_roundw
              case rel => exact ⟨j + 1, by go_num, hlt32, HF.out _ rfl⟩
              case measure => simp [intOf]; omega
          · rw [if_neg hm0] at ha
            have hs2 := HSK.out (fun h => hm0 h.1)
            have HS2 := Hid.mk' hs2
            clear hm0 hs2
            go_wp2_with fail
            go_roundw
            case rel => exact ⟨j + 1, by go_num, hlt32, by rw [HS2.out]; exact H6⟩
            case measure => simp [intOf]; omega
        · have hend : Hid (turnN b bit mask j = turnL b bit mask) := Hid.mk' (by
            rw [turnL, show 32 = j + (32 - j) by omega]
            by_cases h : j = 32
            · subst h; rfl
            · exact (turnN_stop (by rw [hsec]; omega) _).symm)
          have hfin : j = 32 ∨ (j < 32 ∧ ¬ bit < 512 - j) := by omega
          clear hlt
          rcases hfin with rfl | ⟨h1, h2⟩
          · go_wp2_with fail
            go_ret
            refine ⟨rfl, ?_⟩
            rw [hend.out] at H6
            refine disk_shut (v := .slice (some ⟨g, 0, none⟩) q.length c) (q := q.set k (.slice (some ⟨gv, 0, none⟩) 64 cv, turnL b bit mask)) (by rw [List.map_set, HQ.out, HB.out]) ?_
            rw [bytesAll_set hkq, List.length_set, List.map_set, show (q.map (·.1)).set k (Value.slice (some ⟨gv, 0, none⟩) 64 cv) = q.map (·.1) from by
              rw [HV2.out]; exact map_set_self]
            have e64 : (turnL b bit mask).length = 64 := by rw [turnL_len, hsec]
            exact (Holds.toRowB H6 e64).ac (by ac_rfl)
          · have h2 : decide (bit < 512 - j) = false := by simpa using h2
            go_wp2_with fail
            go_ret
            refine ⟨rfl, ?_⟩
            rw [hend.out] at H6
            refine disk_shut (v := .slice (some ⟨g, 0, none⟩) q.length c) (q := q.set k (.slice (some ⟨gv, 0, none⟩) 64 cv, turnL b bit mask)) (by rw [List.map_set, HQ.out, HB.out]) ?_
            rw [bytesAll_set hkq, List.length_set, List.map_set, show (q.map (·.1)).set k (Value.slice (some ⟨gv, 0, none⟩) 64 cv) = q.map (·.1) from by
              rw [HV2.out]; exact map_set_self]
            have e64 : (turnL b bit mask).length = 64 := by rw [turnL_len, hsec]
            exact (Holds.toRowB H6 e64).ac (by ac_rfl)
    · have e0 : rotOk S.length i bit = false := by simp only [rotOk, decide_eq_false_iff_not]; exact fun h => hb0 h.2.2
      rw [rotS, e0, if_neg (by decide)]
      clear e0
      have tb : decide (bit < 0) = true := by simpa using hb0
      go_enter Try.func92, Try.ntmps92
      go_wp2_with fail
      refine (there_spec H).mono ?_
      rintro e w1 ⟨rfl, rfl⟩
      rw [t0]
      go_wp2_with fail
      go_ret
      exact ⟨rfl, H⟩
  · have t0 : decide (0 ≤ i ∧ i < S.length) = false := by simpa using h0
    have e0 : rotOk S.length i bit = false := by simp only [rotOk, decide_eq_false_iff_not]; exact fun h => h0 ⟨h.1, h.2.1⟩
    rw [rotS, e0, if_neg (by decide)]
    clear e0
    go_enter Try.func92, Try.ntmps92
    go_wp2_with fail
    refine (there_spec H).mono ?_
    rintro e w1 ⟨rfl, rfl⟩
    rw [t0]
    go_wp2_with fail
    go_ret
    exact ⟨rfl, H⟩
end Sh
