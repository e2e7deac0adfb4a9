/- The laws of crc: the walks. -/
import Derived.Test.YtdkkadpcgemefaaCrcRef
set_option linter.unusedVariables false
set_option linter.unusedSimpArgs false
namespace Sh
open Go Go.RowKit Go.Proofs
attribute [local go_sem ↓] Go.wp_at_zero Go.wp_at_succ
set_option maxHeartbeats 1000000
set_option maxRecDepth 100000

@[go_sem] theorem convConst2 (w : World) (o : Obj) (C : Array Value) (n c : Nat) : (convert 22 22 (.slice (some ⟨w.heap.size + 1, 0, none⟩) n c)).run Try.prog ((w.alloc o).alloc (.cells C 5)) = .ok (.slice (some ⟨w.heap.size + 1, 0, none⟩) n c) ((w.alloc o).alloc (.cells C 5 (C.size, C.size + 1))) := by
  have h := convConst (w.alloc o) C n c
  rw [World.size_alloc] at h
  exact h
theorem two_parts {w : World} {R : Snap} {L : Asrt} {t : TypeId} {u v : Value} (H : Holds w R L) : Rd (w.alloc (.cells #[u, v] t)).cell? 1 (.slice (some ⟨w.heap.size, 0, none⟩) 2 2) 2 [u, v] :=
  ((H.alloc #[u, v] t).toRow 1 2 2 (Nat.le_refl _) (by simp [maxLen]) rfl).rowRd
theorem crc9 : tn (crcOf [49, 50, 51, 52, 53, 54, 55, 56, 57]) = 3421780262 := by decide +kernel
theorem good4 : goodB [97, 98, 99, 100] = false := by decide +kernel
theorem alive05 {w : World} {R : Snap} {L : Asrt} (H : Holds w R L) : Calls Try.prog 63 #[] w fun e w' => e = .returned (.bool true) ∧ Holds w' R L := by
  go_enter Try.func63, Try.ntmps63
  go_wp2_with fail
  refine (new_crc H).mono ?_
  rintro e w1 ⟨p, rfl, H1⟩
  obtain ⟨R1, le1, H2, hT⟩ := H1.freezeBlk
  clear H1
  go_wp2_with fail
  obtain ⟨R2, le2, H3, hb1⟩ := H2.allocR (.cells #[.int .u8 49, .int .u8 50, .int .u8 51, .int .u8 52] tU8 (4, 5))
  obtain ⟨R3, le3, H4, hb2⟩ := H3.allocR (.cells #[.int .u8 53, .int .u8 54, .int .u8 55, .int .u8 56, .int .u8 57] tU8 (5, 6))
  rw [World.size_alloc] at hb2
  have r1 := frzRdB (le3.blk _ _ hb1) [49, 50, 51, 52] rfl rfl (Nat.le_refl 4) (by decide)
  have r2 := frzRdB hb2 [53, 54, 55, 56, 57] rfl rfl (Nat.le_refl 5) (by decide)
  have hT3 := le3.blk _ _ (le2.blk _ _ hT)
  clear H2 H3
  have H5 := H4.garbage (.cells #[.slice (some ⟨w1.heap.size, 0, none⟩) 4 4, .slice (some ⟨w1.heap.size + 1, 0, none⟩) 5 5] tBytes)
  have hp := two_parts (t := tBytes) (u := .slice (some ⟨w1.heap.size, 0, none⟩) 4 4) (v := .slice (some ⟨w1.heap.size + 1, 0, none⟩) 5 5) H4
  rw [World.size_alloc, World.size_alloc] at hp
  refine (sum_crc (parts := [(.slice (some ⟨w1.heap.size, 0, none⟩) 4 4, [49, 50, 51, 52]), (.slice (some ⟨w1.heap.size + 1, 0, none⟩) 5 5, [53, 54, 55, 56, 57])]) (H5.frz hT3) hp (by
    intro q hq
    rcases List.mem_cons.1 hq with rfl | hq
    · exact r1.world H5
    · rw [List.mem_singleton.1 hq]; exact r2.world H5)).mono ?_
  rintro e w3 ⟨rfl, rfl⟩
  rw [show List.flatMap (fun x : Value × List UInt8 => x.2) [(.slice (some ⟨w1.heap.size, 0, none⟩) 4 4, [49, 50, 51, 52]), (.slice (some ⟨w1.heap.size + 1, 0, none⟩) 5 5, [53, 54, 55, 56, 57])] = [49, 50, 51, 52, 53, 54, 55, 56, 57] from rfl, crc9]
  clear H4 hp
  generalize (World.alloc (World.alloc (World.alloc ..) _) _) = w3 at H5 ⊢
  go_wp2_with fail
  obtain ⟨R4, le4, H6, hb3⟩ := H5.allocR (.cells #[.int .u8 97, .int .u8 98] tU8 (2, 3))
  have r3 := frzRdB hb3 [97, 98] rfl rfl (Nat.le_refl 2) (by decide)
  have hT4 := le4.blk _ _ hT3
  clear H5
  refine (seal_crc H6 hT4 r3 (by decide)).mono ?_
  rintro e w4 ⟨o4, rfl, H7⟩
  clear H6
  obtain ⟨R5, le5, H8, hr5⟩ := H7.freezeRow
  have hT5 := le5.blk _ _ hT4
  clear H7
  go_wp2_with fail
  refine (good_crc H8 hT5 hr5 (by rw [sealB, List.length_append, fourB_length]; decide)).mono ?_
  rintro e w5 ⟨rfl, H9⟩
  rw [goodB_seal]
  clear H8
  go_wp2_with fail
  obtain ⟨R6, le6, H10, hb6⟩ := H9.allocR (.cells #[.int .u8 97, .int .u8 98, .int .u8 99, .int .u8 100] tU8 (4, 5))
  have r6 := frzRdB hb6 [97, 98, 99, 100] rfl rfl (Nat.le_refl 4) (by decide)
  refine (good_crc H10 (le6.blk _ _ hT5) r6 (by decide)).mono ?_
  rintro e w6 ⟨rfl, H11⟩
  rw [good4]
  go_wp2_with fail
  go_ret
  exact ⟨rfl, H11.weaken (le1.trans (le2.trans (le3.trans (le4.trans (le5.trans le6)))))⟩
theorem crcBursts_walk (W : World) {vb : Value} {b : List UInt8} {first : Int} {m : Int} (hb : RdB W.cell? vb b) (hf : IntKind.i64.min ≤ first ∧ first ≤ IntKind.i64.max) (hm : IntKind.u32.min ≤ m ∧ m ≤ IntKind.u32.max) :
    Calls Try.prog 9 #[vb, .int .i64 first, .int .u32 m] W fun e w' => e = .returned (.bool true) ∧ Below W.heap.size W w' := by
  have hb0 := hb
  obtain ⟨ab, cb, rfl⟩ := hb.form
  by_cases hb3 : b.length ≤ 200
  · have t3 : (decide ((200 : Int) < b.length)) = false := by simp; omega
    obtain ⟨mask, rfl⟩ : ∃ mask : Reg, m = tn mask := ⟨BitVec.ofNat 32 m.toNat, by
      have h1 : (0 : Int) ≤ m := hm.1
      have h2 : m ≤ 4294967295 := hm.2
      unfold tn; rw [BitVec.toNat_ofNat, Nat.mod_eq_of_lt (by omega)]; omega⟩
    go_enter Try.func9, Try.ntmps9
    go_wp2_with fail
    refine (new_crc (Holds.start W)).mono ?_
    rintro e w1 ⟨p, rfl, H1⟩
    obtain ⟨R1, le1, H2, hT⟩ := H1.freezeBlk
    clear H1
    go_wp2_with fail
    refine (seal_crc H2 hT (Rd.le (R := Snap.of W) hb0 le1) (by omega)).mono ?_
    rintro e w2 ⟨o, rfl, H3⟩
    obtain ⟨R2, le2, H4, hs⟩ := H3.freezeRow
    have hT2 := le2.blk _ _ hT
    have hsl : (sealB b).length ≤ 1000000 := by rw [sealB, List.length_append, fourB_length]; omega
    clear H2 H3
    go_wp2_with fail
    refine (turn_spec H4 hs hsl hf).mono ?_
    rintro e w3 ⟨ox, x, rfl, hx, H5⟩
    obtain ⟨R3, le3, H6, hxr⟩ := H5.freezeRow
    have hT3 := le3.blk _ _ hT2
    have hs3 := Rd.le hs le3
    have hxl : x.length ≤ 1000000 := by rw [hx.1]; exact hsl
    clear H4 H5
    go_wp2_with fail
    refine (good_crc H6 hT3 hs3 hsl).mono ?_
    rintro e w4 ⟨rfl, H7⟩
    rw [goodB_seal]
    clear H6
    go_wp2_with fail
    refine (good_crc H7 hT3 hxr hxl).mono ?_
    rintro e w5 ⟨rfl, H8⟩
    clear H7
    go_wp2_with fail
    refine (same_spec (hxr.world H8) (hs3.world H8) hxl hsl).mono ?_
    rintro e w6 ⟨rfl, q, rfl⟩
    have hkey : goodB x = decide (x = sealB b) := by
      obtain ⟨h1, h2⟩ := hx
      by_cases h0 : 0 ≤ first
      · exact goodB_burst (k := first.toNat) h1 fun i hi => h2 i (by omega)
      · exact goodB_burst (k := 0) h1 fun i hi => h2 i (by omega)
    rw [hkey]
    have H9 := H8.drewN q
    clear H8
    generalize (World.drewN ..) = w7 at H9 ⊢
    generalize decide (x = sealB b) = d
    go_wp2_with fail
    refine (alive05 H9).mono ?_
    rintro e w8 ⟨rfl, H10⟩
    go_wp2_with fail
    go_ret
    exact ⟨rfl, H10.toBelow (le1.trans (le2.trans le3))⟩
  · have t3 : (decide ((200 : Int) < b.length)) = true := by simp; omega
    go_enter Try.func9, Try.ntmps9
    go_wp2_with fail
    refine (alive05 (Holds.start W)).mono ?_
    rintro e w2 ⟨rfl, H1⟩
    go_wp2_with fail
    go_ret
    exact ⟨rfl, H1.toBelow (Snap.le.refl _)⟩
end Sh
