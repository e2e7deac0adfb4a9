/- RecPut BagTake RecFirst: joined texts, each with its own sentence below. -/
import Derived.Test.YtmogagcffebbaaaRg8
import Derived.Shelf.Abstract
import Derived.Deep.RegionHeld3
import Derived.Test.YtmogagcffebbaaaRg5
import Derived.Test.YtmogagcffebbaaaRg6
import Derived.Test.YtmogagcffebbaaaRg4
import Derived.Deep.RegionLaw
import Derived.Test.YtmogagcffebbaaaRg7
/- record.Put. -/
set_option linter.unusedVariables false
set_option linter.unusedSimpArgs false
namespace Sh
open Go Go.RowKit Go.Proofs
attribute [local go_sem ↓] Go.wp_at_zero Go.wp_at_succ
set_option maxHeartbeats 1000000
set_option maxRecDepth 100000
attribute [local go_sem] Oper.semAt_some

def headR (r : Rc) : List UInt8 := nb 1 72 ++ (nb 1 r.kind ++ (nameB r.name ++ (nb 4 r.attempt ++ (nb 4 r.epoch ++ (nb 4 r.mark ++ (nb 2 r.size ++ nb 1 (r.share.length : Int)))))))
def pieceL (r : Rc) (i : Nat) : List UInt8 := (r.share.drop (i * 48)).take 48
def bodyR (r : Rc) (i : Nat) : List UInt8 := nb 1 66 ++ (nb 1 (i : Int) ++ (nb 1 r.kind ++ (nb 4 r.attempt ++ (nb 4 r.epoch ++ tx (pieceL r i)))))
def putR (r : Rc) : List (List UInt8) := sealS (headR r) :: (List.range (bodiesN r.share.length)).map fun i => sealS (bodyR r i)
theorem nameB_len {s : ByteArray} (h : nameOk s = true) : (nameB s).length = 17 := by
  have h1 := nameOk_le h
  rw [nameB, List.length_append, List.length_append, nb_length, wid_1, List.length_replicate]
  have := strB_sz s
  unfold strB at this
  omega
def outA (g : Nat) (L : Asrt) (b : Value × List (Value × List UInt8)) : Asrt := star (blk g #[b.1] tSecs) (star (row tBytes 1 b.1 b.2.length (b.2.map Prod.fst)) (star (bytesAll b.2) L))
theorem outA_celly {g : Nat} {L : Asrt} (h : L.celly) (b) : (outA g L b).celly := celly_star (celly_blk _ _ _) (celly_star (celly_row _ _ _ _ _) (celly_star (celly_bytes _) h))
set_option maxHeartbeats 8000000
theorem recPut_ok {w : World} {R : Snap} {L : Asrt} {p : Nat} (r : Rc) (H : Holds w R L) (hcy : L.celly) (hT : R.blk p = some (.cells (rowC 256) tabT (0, 0))) (hr : r.Rd R.cell?) (hz : r.Sz) (hok : rcOk r = true) :
    Calls Try.prog 74 #[.pointer (some ⟨p, 0, none⟩), .agg r.cells.toArray] w fun e w' => ∃ (o : Value) (q : List (Value × List UInt8)), e = .returned (.tuple #[o, .int .i64 0]) ∧ q.map (·.2) = putR r ∧ Holds w' R (star (row tBytes 1 o q.length (q.map (·.1))) (star (bytesAll q) L)) := by
  have HOK := Hid.mk' hok
  have hk := hok
  simp only [rcOk, Bool.and_eq_true] at hk
  obtain ⟨⟨⟨k1, k2⟩, k3⟩, _⟩ := hk
  have K1 := Hid.mk' k1
  have f1 := inAll_mem k2 (x := r.attempt) (by simp)
  have f2 := inAll_mem k2 (x := r.epoch) (by simp)
  have f3 := inAll_mem k2 (x := r.mark) (by simp)
  have f4 := inAll_mem k3 (x := r.size) (by simp)
  have f5 := inAll_mem k3 (x := (r.share.length : Int)) (by simp)
  have f6 : 1 ≤ r.kind ∧ r.kind ≤ 5 := by
    have h := hok
    simp only [rcOk, Bool.and_eq_true, rcKind] at h
    have h := h.2
    split at h
    · omega
    · split at h
      · omega
      · split at h
        · omega
        · split at h
          · omega
          · cases h
  have HNL := Hid.mk' (nameB_len K1.out)
  obtain ⟨kind, name, attempt, epoch, mark, size, vs, share⟩ := r
  obtain ⟨z1, z2⟩ := hz
  have hs := hr
  simp only [Rc.Rd] at z1 z2 hs
  obtain ⟨as_, cs_, rfl⟩ := hs.form
  simp only at f1 f2 f3 f4 f5 f6 HNL
  have hsh := Sh.Rd.max hs
  obtain ⟨N, hN⟩ : ∃ N, N = share.length := ⟨_, rfl⟩
  have HSB : Hid (RdB R.cell? (.slice as_ N cs_) share) := Hid.mk' (by rw [hN]; exact hs)
  have HN := Hid.mk' hN
  obtain ⟨R1, le1, H1, hb1⟩ := H.allocR (.cells #[.pointer (some ⟨p, 0, none⟩)] 79 (0, 0))
  obtain ⟨R2, le2, H2, hb2⟩ := H1.allocR (.cells #[.int .i64 kind, .string name, .int .i64 attempt, .int .i64 epoch, .int .i64 mark, .int .i64 size, .slice as_ share.length cs_] tRec (0, 0))
  replace hb1 := le2.blk _ _ hb1
  have leA := le1.trans le2
  have hT2 := leA.blk _ _ hT
  simp only [World.size_alloc] at hb2
  simp only [← hN] at hb2 H2 f5
  clear H H1 hT k1 k2 k3 hok le1 le2 hs hr
  show Calls _ _ #[_, .agg #[.int .i64 kind, .string name, .int .i64 attempt, .int .i64 epoch, .int .i64 mark, .int .i64 size, .slice as_ share.length cs_]] _ _
  simp only [← hN]
  rw [← hN] at hsh z2
  obtain ⟨f1a, f1b⟩ := f1
  obtain ⟨f2a, f2b⟩ := f2
  obtain ⟨f3a, f3b⟩ := f3
  obtain ⟨f4a, f4b⟩ := f4
  obtain ⟨f5a, f5b⟩ := f5
  obtain ⟨f6a, f6b⟩ := f6
  clear hN
  refine (callsIn_wide (n := 3)).1 (callsIn_of_wp_marks Try.func74 rfl trivial ?_ rfl)
  simp only [Try.ntmps74, List.size_toArray, List.length_cons, List.length_nil, Nat.reduceAdd, Nat.reduceSub, Array.replicate_succ, Array.replicate_zero, List.push_toArray, List.append_toArray, List.nil_append, List.cons_append]
  refine wpIn_wide.2 ?_
  obtain ⟨Q0, hQ0⟩ : ∃ Q0, Q0 = bodyPostM Fence.wide 3 Try.prog Try.f74 (fun e w' => ∃ (o : Value) (q : List (Value × List UInt8)), e = .returned (.tuple #[o, .int .i64 0]) ∧ q.map (·.2) = putR (⟨kind, name, attempt, epoch, mark, size, .slice as_ N cs_, share⟩ : Rc) ∧ Holds w' R (star (row tBytes 1 o q.length (q.map (·.1))) (star (bytesAll q) L))) := ⟨_, rfl⟩
  rw [← hQ0]
  have HQ0 := Hid.mk' hQ0
  clear hQ0
  go_upto_region 1 with fail
  generalize (World.alloc ..) = w2 at H2 ⊢
  generalize (w.heap.size + 1) = g2 at hb2 ⊢
  generalize w.heap.size = g1 at hb1 ⊢
  obtain ⟨l2, n2, c2⟩ := Holds.frzFacts (H2) hb2
  have hRS : Rc.Rd R2.cell? ⟨kind, name, attempt, epoch, mark, size, .slice as_ N cs_, share⟩ := Sh.Rd.le HSB.out leA
  go_wp2_with fail
  refine (recRight_spec (⟨kind, name, attempt, epoch, mark, size, .slice as_ N cs_, share⟩ : Rc) H2 hRS ⟨z1, by show share.length ≤ 1000000; rw [← HN.out]; omega⟩).mono ?_
  rintro e w3 ⟨rfl, H3⟩
  rw [show rcOk (⟨kind, name, attempt, epoch, mark, size, .slice as_ N cs_, share⟩ : Rc) = true from HOK.out]
  have HRS := Hid.mk' hRS
  clear H2 hRS l2 n2 c2
  have H4 : Holds _ R2 (star (wr _ []) L) := wr_shut (((H3.alloc #[.slice none 0 0] 153).nilRow tU8 1).swap)
  go_wp2_with fail
  generalize (World.alloc ..) = w4 at H4 ⊢
  generalize w3.heap.size = pw at H4 ⊢
  clear H3
  refine (num_spec H4 (by simp) (by omega)).mono ?_
  rintro e w9 ⟨rfl, H5⟩
  rw [List.nil_append] at H5
  clear H4
  obtain ⟨l2, n2, c2⟩ := Holds.frzFacts (H5) hb2
  go_wp2_with fail
  refine (num_spec H5 (by simp [nb_length, wid_1, wid_2, wid_4, HNL.out]) (by omega)).mono ?_
  rintro e w9 ⟨rfl, H6⟩
  clear H5 l2 n2 c2
  obtain ⟨l2, n2, c2⟩ := Holds.frzFacts (H6) hb2
  go_wp2_with fail
  refine (lput_spec H6 (by simp [nb_length, wid_1, wid_2, wid_4]) K1.out).mono ?_
  rintro e w9 ⟨rfl, H7⟩
  clear H6 l2 n2 c2
  obtain ⟨l2, n2, c2⟩ := Holds.frzFacts (H7) hb2
  go_wp2_with fail
  refine (num_spec H7 (by simp [nb_length, wid_1, wid_2, wid_4, HNL.out]) (by omega)).mono ?_
  rintro e w9 ⟨rfl, H8⟩
  clear H7 l2 n2 c2
  obtain ⟨l2, n2, c2⟩ := Holds.frzFacts (H8) hb2
  go_wp2_with fail
  refine (num_spec H8 (by simp [nb_length, wid_1, wid_2, wid_4, HNL.out]) (by omega)).mono ?_
  rintro e w9 ⟨rfl, H9⟩
  clear H8 l2 n2 c2
  obtain ⟨l2, n2, c2⟩ := Holds.frzFacts (H9) hb2
  go_wp2_with fail
  refine (num_spec H9 (by simp [nb_length, wid_1, wid_2, wid_4, HNL.out]) (by omega)).mono ?_
  rintro e w9 ⟨rfl, H10⟩
  clear H9 l2 n2 c2
  obtain ⟨l2, n2, c2⟩ := Holds.frzFacts (H10) hb2
  go_wp2_with fail
  refine (num_spec H10 (by simp [nb_length, wid_1, wid_2, wid_4, HNL.out]) (by omega)).mono ?_
  rintro e w9 ⟨rfl, H11⟩
  clear H10 l2 n2 c2
  obtain ⟨l2, n2, c2⟩ := Holds.frzFacts (H11) hb2
  go_wp2_with fail
  refine (num_spec H11 (by simp [nb_length, wid_1, wid_2, wid_4, HNL.out]) (by omega)).mono ?_
  rintro e w9 ⟨rfl, H12⟩
  clear H11 l2 n2 c2
  have eh : nb 1 72 ++ nb 1 kind ++ nameB name ++ nb 4 attempt ++ nb 4 epoch ++ nb 4 mark ++ nb 2 size ++ nb 1 (N : Int) = headR (⟨kind, name, attempt, epoch, mark, size, .slice as_ N cs_, share⟩ : Rc) := by
    simp only [headR, ← HN.out, List.append_assoc]
  rw [eh] at H12
  obtain ⟨hd, hhd⟩ : ∃ hd, hd = headR (⟨kind, name, attempt, epoch, mark, size, .slice as_ N cs_, share⟩ : Rc) := ⟨_, rfl⟩
  rw [← hhd] at H12 eh
  have hl : hd.length ≤ 60 := by rw [← eh]; simp [nb_length, wid_1, wid_2, wid_4, HNL.out]
  have HHD := Hid.mk' hhd
  clear eh hhd
  obtain ⟨l1, n1, c1⟩ := Holds.frzFacts (H12) hb1
  go_upto_region 12 with fail
  have H12a : Holds ((w9.alloc (.cells #[.slice none 0 0] tSecs)).drew) R2 (star (wr pw hd) (star (blk w9.heap.size #[.slice none 0 0] tSecs) L)) := ((H12.alloc #[.slice none 0 0] tSecs)).drew.swap
  go_cut [7] from 37 to 40 (fun s7 wx => ∃ (g7 : Nat) (v7 o : Value), s7 = .pointer (some ⟨g7, 0, none⟩) ∧ Holds wx R2 (star (blk g7 #[v7] tSecs) (star (row tBytes 1 v7 1 [o]) (star (rowB o (sealS hd)) L))))
  case first =>
    go_region_law (first | (go_simp; first | (go_at_call 118; first | (refine (bytes_spec H12.drew (by omega)).mono ?_; rintro e w21 ⟨v21, rfl, H21⟩; obtain ⟨R22, le22, H22, hr22⟩ := H21.freezeRow; obtain ⟨lx, nx, cx⟩ := Holds.frzFacts H22 (le22.blk _ _ hb1)) | (refine (bytes_spec H12a (by omega)).mono ?_; rintro e w21 ⟨v21, rfl, H21⟩; obtain ⟨R22, le22, H22, hr22⟩ := H21.freezeRow; obtain ⟨lx, nx, cx⟩ := Holds.frzFacts H22 (le22.blk _ _ hb1))) | (go_at_call 142; first | (refine (sseal_spec H22 (le22.blk _ _ hT2) hr22).mono ?_; rintro e w23 ⟨o, rfl, H23⟩; obtain ⟨ao, co, rfl⟩ := H23.rowRd.form; rw [sealS_len hl] at H23 ⊢; try (obtain ⟨l5, n5, k5, z5⟩ := Holds.facts H23.pick3)) | (refine (sseal_spec (H22.alloc #[.slice none 0 0] tSecs) (le22.blk _ _ hT2) hr22).mono ?_; rintro e w23 ⟨o, rfl, H23⟩; obtain ⟨ao, co, rfl⟩ := H23.rowRd.form; rw [sealS_len hl] at H23 ⊢; obtain ⟨l5, n5, k5, z5⟩ := Holds.facts H23.swap))))
    all_goals
      go_wp2_with fail
      go_meet
      case rel =>
        first
        | (have h := ((H23.drop2.alloc #[.slice ao 64 co] tBytes).toRow 1 1 1 (Nat.le_refl _) (by decide) rfl).alloc #[.slice (some ⟨w23.heap.size, 0, none⟩) 1 1] tSecs; rw [World.size_alloc] at h; exact ⟨_, _, .slice ao 64 co, rfl, h.weaken le22⟩)
        | (have h := ((H23.drop2.alloc #[.slice (some ⟨w23.heap.size + 1, 0, none⟩) 1 1] tSecs).alloc #[.slice ao 64 co] tBytes).toRow 1 1 1 (Nat.le_refl _) (by decide) rfl; rw [World.size_alloc] at h; exact ⟨_, _, .slice ao 64 co, rfl, h.swap.weaken le22⟩)
        | (have h := ((H23.pick3.drop.swap.set 0 (.slice (some ⟨w23.heap.size, 0, none⟩) 1 1)).alloc #[.slice ao 64 co] tBytes).toRow 1 1 1 (Nat.le_refl _) (by decide) rfl; rw [World.size_setCell] at h; exact ⟨_, _, .slice ao 64 co, rfl, h.swap.weaken le22⟩)
        | (have h := ((H23.drop2.swap.set 0 (.slice (some ⟨w23.heap.size, 0, none⟩) 1 1)).alloc #[.slice ao 64 co] tBytes).toRow 1 1 1 (Nat.le_refl _) (by decide) rfl; rw [World.size_setCell] at h; exact ⟨_, _, .slice ao 64 co, rfl, h.swap.weaken le22⟩)
  obtain ⟨g7, v7, o, rfl, H13⟩ := hcut
  clear H12 H12a l1 n1 c1
  obtain ⟨l2, n2, c2⟩ := Holds.frzFacts (H13) hb2
  go_wp2_with fail
  refine (recPieces_spec as_ N cs_ _).mono ?_
  rintro e w14 ⟨rfl, rfl⟩
  obtain ⟨R3, le3, H14, hb3⟩ := H13.allocR (.cells #[.slice as_ N cs_] tBytes (0, 0))
  clear l2 n2 c2
  go_wp2_with fail
  generalize (World.alloc ..) = w14 at H14 ⊢
  generalize wc.heap.size = g3 at hb3 ⊢
  clear H13
  have H15 : Holds w14 R3 (star (blk g7 #[v7] tSecs) (star (row tBytes 1 v7 1 [o]) (star (bytesAll [(o, sealS hd)]) L))) := by rw [bytesAll_one]; exact H14
  obtain ⟨b0, o0, ha⟩ : ∃ b0 o0, 0 < N → as_ = some ⟨b0, o0, none⟩ := by
    by_cases h : 0 < N
    · obtain ⟨b1, o1, h1, _⟩ := RdB.open (by have := HSB.out; rw [HN.out] at this; exact this) (by rw [← HN.out]; exact h)
      exact ⟨b1, o1, fun _ => h1⟩
    · exact ⟨0, 0, fun h' => absurd h' h⟩
  have hB : N ≤ cs_ ∧ cs_ ≤ maxLen := by have := HSB.out; rw [HN.out] at this ⊢; exact ⟨this.bounds.1, this.bounds.2.1⟩
  have hsq := recPieces_stops 2 (by decide) g3 N cs_ b0 o0 as_ ha (by omega) hB.1 hB.2 w14 (H14.blk g3 _ hb3)
  refine wp_range (encs := fun x : Fin (bodiesN N) => #[.int .i64 (x.1 : Nat), pieceV b0 o0 N cs_ x.1]) (R0 := R3) (A := outA g7 L) rfl (enters_of Try.func193 (by kernel_rfl) rfl) hsq (fun _ => rfl)
    (fun pre b => b.2.map (·.2) = sealS hd :: pre.map (fun i => sealS (bodyR (⟨kind, name, attempt, epoch, mark, size, .slice as_ N cs_, share⟩ : Rc) i.1))) ⟨_, hb3⟩ (outA_celly hcy) (v7, [(o, sealS hd)]) rfl H15
    (fun a x => { tmps := (((a.tmps.setIfInBounds 44 (.int .i64 (x.1 : Nat))).setIfInBounds 45 (pieceV b0 o0 N cs_ x.1)).setIfInBounds 8 (.int .i64 (x.1 : Nat))).setIfInBounds 9 (pieceV b0 o0 N cs_ x.1), defers := [] }) ?assign ?body ?done
  case assign =>
    intro l x W K hK
    gi_wp2
    exact hK
  case body =>
    rintro l pre x ⟨v, q⟩ W hq hlen H16
    refine wpIn_block ?_
    generalize hQB : Exit.inBlock 1 _ = QB
    have hL : ¬ LetsOut QB := by rw [← hQB]; exact fun ⟨_, _, h, _⟩ => by cases h
    have hfin : ∀ (a : Act) (W' : World) (b' : Value × List (Value × List UInt8)) (R' : Snap), (R3.big W).le R' → W.heap.size ≤ W'.heap.size → b'.2.map (·.2) = sealS hd :: (pre ++ [x]).map (fun i => sealS (bodyR (⟨kind, name, attempt, epoch, mark, size, .slice as_ N cs_, share⟩ : Rc) i.1)) → Holds W' R' (outA g7 L b') → QB .normal a W' := by
      rw [← hQB]; exact fun a W' b' R' h1 h2 h3 h4 => ⟨rfl, b', R', h1, h2, h3, h4⟩
    have hpan : ∀ c (a : Act) (W' : World), QB (.panic c) a W' → False := by rw [← hQB]; exact fun c a W' h => by cases h.1
    have HF := Hid.mk' hfin
    have HPN := Hid.mk' hpan
    clear hQB hfin hpan
    have leb := Snap.le_big R3 W
    have hp48 := x.2
    have hi : x.1 * 48 < N := by unfold bodiesN at hp48; omega
    have hpi := hb3
    replace hb1 := leb.blk _ _ (le3.blk _ _ hb1)
    replace hb2 := leb.blk _ _ (le3.blk _ _ hb2)
    replace hT2 := leb.blk _ _ (le3.blk _ _ hT2)
    obtain ⟨Rb, hRb⟩ : ∃ Rb, Rb = R3.big W := ⟨_, rfl⟩
    rw [← hRb] at H16 hb1 hb2 hT2 leb HF
    clear hRb
    unfold outA at H16
    simp only at H16
    refine seq_round (by rfl) hL (fun K hK => ?_)
    go_wp2_with fail
    have H17 : Holds _ Rb (star (wr _ []) _) := wr_shut (((H16.alloc #[.slice none 0 0] 153).nilRow tU8 1).swap)
    generalize (World.alloc ..) = w17 at H17 ⊢
    obtain ⟨pb, hpb⟩ : ∃ pb, pb = W.heap.size := ⟨_, rfl⟩
    rw [← hpb] at H17 HF ⊢
    have HPB := Hid.mk' hpb
    clear hpb
    refine seq_round (by rfl) hL (fun K hK => ?_)
    go_wp2_with fail
    refine (num_spec H17 (by simp) (by omega)).mono ?_
    rintro e w9 ⟨rfl, H18⟩
    rw [List.nil_append] at H18
    clear H17
    go_wp2_with fail
    refine seq_round (by rfl) hL (fun K hK => ?_)
    go_wp2_with fail
    refine (num_spec H18 (by simp [nb_length, wid_1]) (by omega)).mono ?_
    rintro e w9 ⟨rfl, H19⟩
    clear H18
    go_wp2_with fail
    refine seq_round (by rfl) hL (fun K hK => ?_)
    obtain ⟨l2, n2, c2⟩ := Holds.frzFacts (H19) hb2
    go_wp2_with fail
    refine (num_spec H19 (by simp [nb_length, wid_1, wid_2, wid_4]) (by omega)).mono ?_
    rintro e w9 ⟨rfl, H20⟩
    clear H19 l2 n2 c2
    go_wp2_with fail
    refine seq_round (by rfl) hL (fun K hK => ?_)
    obtain ⟨l2, n2, c2⟩ := Holds.frzFacts (H20) hb2
    go_wp2_with fail
    refine (num_spec H20 (by simp [nb_length, wid_1, wid_2, wid_4]) (by omega)).mono ?_
    rintro e w9 ⟨rfl, H21⟩
    clear H20 l2 n2 c2
    go_wp2_with fail
    refine seq_round (by rfl) hL (fun K hK => ?_)
    obtain ⟨l2, n2, c2⟩ := Holds.frzFacts (H21) hb2
    go_wp2_with fail
    refine (num_spec H21 (by simp [nb_length, wid_1, wid_2, wid_4]) (by omega)).mono ?_
    rintro e w9 ⟨rfl, H22⟩
    clear H21 l2 n2 c2
    go_wp2_with fail
    have hlo : x.1 * 48 < N := hi
    obtain ⟨i, hxi⟩ : ∃ i, i = x.1 := ⟨_, rfl⟩
    have hpr : RdB Rb.cell? (pieceV b0 o0 N cs_ i) (pieceL (⟨kind, name, attempt, epoch, mark, size, .slice as_ N cs_, share⟩ : Rc) i) := by
      have h1 : RdB Rb.cell? (.slice as_ share.length cs_) share := by
        rw [← HN.out]; exact Sh.Rd.le HSB.out ((leA.trans le3).trans leb)
      have h2 := RdB.sub h1 (i * 48) (min ((i + 1) * 48) N) cs_ (by omega) (by rw [← HN.out]; omega) (by omega) (Nat.le_refl _)
      have h3 : adr as_ cs_ (i * 48) 1 = some ⟨b0, o0 + i * 48, none⟩ := by
        rw [ha (by omega), adr, if_neg (by omega)]
        simp [Addr.add]
      rw [h3] at h2
      have h4 : (share.drop (i * 48)).take (min ((i + 1) * 48) N - i * 48) = pieceL (⟨kind, name, attempt, epoch, mark, size, .slice as_ N cs_, share⟩ : Rc) i := by
        show _ = (share.drop (i * 48)).take 48
        by_cases h : (i + 1) * 48 ≤ N
        · rw [Nat.min_eq_left h]; congr 1; omega
        · rw [List.take_of_length_le (by rw [List.length_drop, ← HN.out]; omega), List.take_of_length_le (by rw [List.length_drop, ← HN.out]; omega)]
      rw [h4] at h2
      exact h2
    have hpl : (pieceL (⟨kind, name, attempt, epoch, mark, size, .slice as_ N cs_, share⟩ : Rc) i).length ≤ 48 := by
      show ((share.drop (i * 48)).take 48).length ≤ 48
      rw [List.length_take]; omega
    refine seq_round (by rfl) hL (fun K hK => ?_)
    go_wp2_with fail
    simp only [← hxi]
    refine (text_spec H22 (by simp [nb_length, wid_1, wid_4]) (by omega) hpr).mono ?_
    rintro e w9 ⟨rfl, H23⟩
    clear H22
    have eb : nb 1 66 ++ nb 1 ((x.1 : Nat) : Int) ++ nb 1 kind ++ nb 4 attempt ++ nb 4 epoch ++ nb 1 (min (pieceL (⟨kind, name, attempt, epoch, mark, size, .slice as_ N cs_, share⟩ : Rc) i).length 255 : Nat) ++ (pieceL (⟨kind, name, attempt, epoch, mark, size, .slice as_ N cs_, share⟩ : Rc) i).take 255 = bodyR (⟨kind, name, attempt, epoch, mark, size, .slice as_ N cs_, share⟩ : Rc) i := by
      rw [← hxi]
      simp only [bodyR, tx, List.append_assoc]
    rw [eb] at H23
    go_wp2_with fail
    clear eb hpr hpl
    obtain ⟨bd, hbd⟩ : ∃ bd, bd = bodyR (⟨kind, name, attempt, epoch, mark, size, .slice as_ N cs_, share⟩ : Rc) i := ⟨_, rfl⟩
    rw [← hbd] at H23
    have hbl : bd.length ≤ 60 := by
      rw [hbd]
      simp only [bodyR, tx, List.length_append, nb_length, wid_1, wid_4, List.length_take]
      have : (pieceL (⟨kind, name, attempt, epoch, mark, size, .slice as_ N cs_, share⟩ : Rc) i).length ≤ 48 := by
        show ((share.drop (i * 48)).take 48).length ≤ 48
        rw [List.length_take]; omega
      omega
    have HBD := Hid.mk' hbd
    clear hbd
    refine draw_round (by kernel_rfl) (by rfl) hL ?_
    replace H23 := H23.drew
    generalize (World.drew w9) = w23 at H23 ⊢
    have hqn : q.length ≤ 100 := by
      have := congrArg List.length hq
      simp only [List.length_map, List.length_cons] at this
      have h2 : bodiesN N ≤ 50 := by unfold bodiesN; omega
      omega
    have HXI := Hid.mk' hxi
    have leX := leb
    refine wpAny_of_held (S := fun w' => w'.cell? ⟨g1, 0, none⟩ = some (.pointer (some ⟨p, 0, none⟩))) _ _ _ _ ?_
    have hS : w23.cell? ⟨g1, 0, none⟩ = some (.pointer (some ⟨p, 0, none⟩)) := H23.frz hb1 0
    refine wpAnyH_take (i := 1) (v := .pointer (some ⟨p, 0, none⟩)) rfl (by kernel_rfl) (by kernel_rfl) (by kernel_rfl) (fun c a w h => (HPN.out _ _ _ h).elim) (Or.inl ⟨by rfl, ?_⟩) hS ?_
    · intro w hSw
      go_simp
    try simp only [Act.put, List.setIfInBounds_toArray, List.set_cons_zero, List.set_cons_succ]
    clear hS hxi hp48 hi hlo
    refine wpAnyH_ready (rs := [0, 2]) (by kernel_rfl) (by simp) ?_
    refine AllReadyH.cons rfl (fun K hK => ?_) (AllReadyH.cons rfl (fun K hK => ?_) AllReadyH.nil)
    · obtain ⟨l7, n7, c7, z7⟩ := Holds.facts (H23.swap)
      go_simp
      refine hK.out _ _ (Holds.frz H23.swap (hb1) 0) (fun _ => ?_)
      clear l7 n7 c7 z7 hK K
      refine wpAnyH_ready (rs := [2]) (by kernel_rfl) (by simp) ?_
      refine AllReadyH.cons rfl (fun K hK => ?_) AllReadyH.nil
      go_simp
      refine (bytes_spec H23 (by omega)).mono ?_
      rintro e w24 ⟨v24, rfl, H24⟩
      obtain ⟨R24, le24, H25, hr25⟩ := H24.freezeRow
      refine hK.out _ _ (H25.frz (le24.blk _ _ hb1) 0) (fun _ => ?_)
      clear hK K
      refine wpAnyH_ready (rs := [3]) (by kernel_rfl) (by simp) ?_
      refine AllReadyH.cons rfl (fun K hK => ?_) AllReadyH.nil
      go_simp
      refine (sseal_spec H25 (le24.blk _ _ hT2) hr25).mono ?_
      rintro e w26 ⟨o26, rfl, H26⟩
      obtain ⟨ao, co, rfl⟩ := H26.rowRd.form
      rw [sealS_len hbl] at H26 ⊢
      refine hK.out _ _ (H26.frz (le24.blk _ _ hb1) 0) (fun _ => ?_)
      clear hK K
      refine wpAnyH_ready (rs := [4]) (by kernel_rfl) (by simp) ?_
      refine AllReadyH.cons rfl (fun K hK => ?_) AllReadyH.nil
      go_simp
      have H27 := H26.alloc #[.slice ao 64 co] tBytes
      have hr27 : Rd _ 1 _ 1 _ := (H27.toRow 1 1 1 (Nat.le_refl _) (by simp [maxLen]) rfl).rowRd
      refine hK.out _ _ (H27.frz (le24.blk _ _ hb1) 0) (fun _ => ?_)
      clear hK K
      refine wpAnyH_ready (rs := [5]) (by kernel_rfl) (by simp) ?_
      refine AllReadyH.cons rfl (fun K hK => ?_) AllReadyH.nil
      refine step_append rfl _ _ (by rfl) undSecs infoBytes rfl (by decide) (by rfl) (by rfl) H27.drop.pick4 hr27 (by simp [Value.oneCell']) (by simp only [maxLen]; omega) (by omega) ?_
      intro v28 w28 H28
      obtain ⟨a28, c28, rfl⟩ := H28.rowRd.form
      refine hK.out _ _ (H28.frz (le24.blk _ _ hb1) 0) (fun _ => ?_)
      try simp only [Act.put, List.setIfInBounds_toArray, List.set_cons_zero, List.set_cons_succ]
      clear hK K
      obtain ⟨l7, n7, c7, z7⟩ := Holds.facts H28.pick4
      refine wpAnyH_ready (rs := [6]) (by kernel_rfl) (by simp) ?_
      refine AllReadyH.cons rfl (fun K hK => ?_) AllReadyH.nil
      go_simp
      have H29 := H28.pick4.set 0 (.slice a28 (q.length + 1) c28)
      refine hK.out _ _ (H29.frz (le24.blk _ _ hb1) 0) (fun _ => ?_)
      clear hK K
      refine wpAnyH_done (by kernel_rfl) ?_ _
      have hsz : W.heap.size ≤ (w28.setCell ⟨g7, 0, none⟩ (.slice a28 (q.length + 1) c28)).heap.size := by
        obtain ⟨_, _, h⟩ := wr_open H29.pick4
        have := h.blkLt
        rw [← HPB.out]; omega
      exact HF.out _ _ (.slice a28 (q.length + 1) c28, q ++ [(.slice ao 64 co, sealS bd)]) R24 le24 (by rw [HPB.out]; exact hsz) (by rw [List.map_append, hq, HBD.out, HXI.out]; simp) (by
        unfold outA
        simp only [List.map_append, List.length_append, List.length_singleton, List.map_cons, List.map_nil, bytesAll_append, bytesAll_one]
        exact (H29.pick4.drop).ac (by ac_rfl))
    · go_simp
      refine (bytes_spec H23 (by omega)).mono ?_
      rintro e w24 ⟨v24, rfl, H24⟩
      obtain ⟨R24, le24, H25, hr25⟩ := H24.freezeRow
      refine hK.out _ _ (H25.frz (le24.blk _ _ hb1) 0) (fun _ => ?_)
      clear hK K
      refine wpAnyH_ready (rs := [0, 3]) (by kernel_rfl) (by simp) ?_
      refine AllReadyH.cons rfl (fun K hK => ?_) (AllReadyH.cons rfl (fun K hK => ?_) AllReadyH.nil)
      · obtain ⟨l7, n7, c7, z7⟩ := Holds.facts (H25.swap)
        go_simp
        refine hK.out _ _ (Holds.frz H25.swap (le24.blk _ _ hb1) 0) (fun _ => ?_)
        clear l7 n7 c7 z7 hK K
        refine wpAnyH_ready (rs := [3]) (by kernel_rfl) (by simp) ?_
        refine AllReadyH.cons rfl (fun K hK => ?_) AllReadyH.nil
        go_simp
        refine (sseal_spec H25 (le24.blk _ _ hT2) hr25).mono ?_
        rintro e w26 ⟨o26, rfl, H26⟩
        obtain ⟨ao, co, rfl⟩ := H26.rowRd.form
        rw [sealS_len hbl] at H26 ⊢
        refine hK.out _ _ (H26.frz (le24.blk _ _ hb1) 0) (fun _ => ?_)
        clear hK K
        refine wpAnyH_ready (rs := [4]) (by kernel_rfl) (by simp) ?_
        refine AllReadyH.cons rfl (fun K hK => ?_) AllReadyH.nil
        go_simp
        have H27 := H26.alloc #[.slice ao 64 co] tBytes
        have hr27 : Rd _ 1 _ 1 _ := (H27.toRow 1 1 1 (Nat.le_refl _) (by simp [maxLen]) rfl).rowRd
        refine hK.out _ _ (H27.frz (le24.blk _ _ hb1) 0) (fun _ => ?_)
        clear hK K
        refine wpAnyH_ready (rs := [5]) (by kernel_rfl) (by simp) ?_
        refine AllReadyH.cons rfl (fun K hK => ?_) AllReadyH.nil
        refine step_append rfl _ _ (by rfl) undSecs infoBytes rfl (by decide) (by rfl) (by rfl) H27.drop.pick4 hr27 (by simp [Value.oneCell']) (by simp only [maxLen]; omega) (by omega) ?_
        intro v28 w28 H28
        obtain ⟨a28, c28, rfl⟩ := H28.rowRd.form
        refine hK.out _ _ (H28.frz (le24.blk _ _ hb1) 0) (fun _ => ?_)
        try simp only [Act.put, List.setIfInBounds_toArray, List.set_cons_zero, List.set_cons_succ]
        clear hK K
        obtain ⟨l7, n7, c7, z7⟩ := Holds.facts H28.pick4
        refine wpAnyH_ready (rs := [6]) (by kernel_rfl) (by simp) ?_
        refine AllReadyH.cons rfl (fun K hK => ?_) AllReadyH.nil
        go_simp
        have H29 := H28.pick4.set 0 (.slice a28 (q.length + 1) c28)
        refine hK.out _ _ (H29.frz (le24.blk _ _ hb1) 0) (fun _ => ?_)
        clear hK K
        refine wpAnyH_done (by kernel_rfl) ?_ _
        have hsz : W.heap.size ≤ (w28.setCell ⟨g7, 0, none⟩ (.slice a28 (q.length + 1) c28)).heap.size := by
          obtain ⟨_, _, h⟩ := wr_open H29.pick4
          have := h.blkLt
          rw [← HPB.out]; omega
        exact HF.out _ _ (.slice a28 (q.length + 1) c28, q ++ [(.slice ao 64 co, sealS bd)]) R24 le24 (by rw [HPB.out]; exact hsz) (by rw [List.map_append, hq, HBD.out, HXI.out]; simp) (by
          unfold outA
          simp only [List.map_append, List.length_append, List.length_singleton, List.map_cons, List.map_nil, bytesAll_append, bytesAll_one]
          exact (H29.pick4.drop).ac (by ac_rfl))
      · go_simp
        refine (sseal_spec H25 (le24.blk _ _ hT2) hr25).mono ?_
        rintro e w26 ⟨o26, rfl, H26⟩
        obtain ⟨ao, co, rfl⟩ := H26.rowRd.form
        rw [sealS_len hbl] at H26 ⊢
        refine hK.out _ _ (H26.frz (le24.blk _ _ hb1) 0) (fun _ => ?_)
        clear hK K
        refine wpAnyH_ready (rs := [0, 4]) (by kernel_rfl) (by simp) ?_
        refine AllReadyH.cons rfl (fun K hK => ?_) (AllReadyH.cons rfl (fun K hK => ?_) AllReadyH.nil)
        · obtain ⟨l7, n7, c7, z7⟩ := Holds.facts (H26.pick3)
          go_simp
          refine hK.out _ _ (Holds.frz H26.pick3 (le24.blk _ _ hb1) 0) (fun _ => ?_)
          clear l7 n7 c7 z7 hK K
          refine wpAnyH_ready (rs := [4]) (by kernel_rfl) (by simp) ?_
          refine AllReadyH.cons rfl (fun K hK => ?_) AllReadyH.nil
          go_simp
          have H27 := H26.alloc #[.slice ao 64 co] tBytes
          have hr27 : Rd _ 1 _ 1 _ := (H27.toRow 1 1 1 (Nat.le_refl _) (by simp [maxLen]) rfl).rowRd
          refine hK.out _ _ (H27.frz (le24.blk _ _ hb1) 0) (fun _ => ?_)
          clear hK K
          refine wpAnyH_ready (rs := [5]) (by kernel_rfl) (by simp) ?_
          refine AllReadyH.cons rfl (fun K hK => ?_) AllReadyH.nil
          refine step_append rfl _ _ (by rfl) undSecs infoBytes rfl (by decide) (by rfl) (by rfl) H27.drop.pick4 hr27 (by simp [Value.oneCell']) (by simp only [maxLen]; omega) (by omega) ?_
          intro v28 w28 H28
          obtain ⟨a28, c28, rfl⟩ := H28.rowRd.form
          refine hK.out _ _ (H28.frz (le24.blk _ _ hb1) 0) (fun _ => ?_)
          try simp only [Act.put, List.setIfInBounds_toArray, List.set_cons_zero, List.set_cons_succ]
          clear hK K
          obtain ⟨l7, n7, c7, z7⟩ := Holds.facts H28.pick4
          refine wpAnyH_ready (rs := [6]) (by kernel_rfl) (by simp) ?_
          refine AllReadyH.cons rfl (fun K hK => ?_) AllReadyH.nil
          go_simp
          have H29 := H28.pick4.set 0 (.slice a28 (q.length + 1) c28)
          refine hK.out _ _ (H29.frz (le24.blk _ _ hb1) 0) (fun _ => ?_)
          clear hK K
          refine wpAnyH_done (by kernel_rfl) ?_ _
          have hsz : W.heap.size ≤ (w28.setCell ⟨g7, 0, none⟩ (.slice a28 (q.length + 1) c28)).heap.size := by
            obtain ⟨_, _, h⟩ := wr_open H29.pick4
            have := h.blkLt
            rw [← HPB.out]; omega
          exact HF.out _ _ (.slice a28 (q.length + 1) c28, q ++ [(.slice ao 64 co, sealS bd)]) R24 le24 (by rw [HPB.out]; exact hsz) (by rw [List.map_append, hq, HBD.out, HXI.out]; simp) (by
            unfold outA
            simp only [List.map_append, List.length_append, List.length_singleton, List.map_cons, List.map_nil, bytesAll_append, bytesAll_one]
            exact (H29.pick4.drop).ac (by ac_rfl))
        · go_simp
          have H27 := H26.alloc #[.slice ao 64 co] tBytes
          have hr27 : Rd _ 1 _ 1 _ := (H27.toRow 1 1 1 (Nat.le_refl _) (by simp [maxLen]) rfl).rowRd
          refine hK.out _ _ (H27.frz (le24.blk _ _ hb1) 0) (fun _ => ?_)
          clear hK K
          refine wpAnyH_ready (rs := [0]) (by kernel_rfl) (by simp) ?_
          refine AllReadyH.cons rfl (fun K hK => ?_) AllReadyH.nil
          obtain ⟨l7, n7, c7, z7⟩ := Holds.facts (H27.pick4)
          go_simp
          refine hK.out _ _ (Holds.frz H27.pick4 (le24.blk _ _ hb1) 0) (fun _ => ?_)
          clear l7 n7 c7 z7 hK K
          refine wpAnyH_ready (rs := [5]) (by kernel_rfl) (by simp) ?_
          refine AllReadyH.cons rfl (fun K hK => ?_) AllReadyH.nil
          refine step_append rfl _ _ (by rfl) undSecs infoBytes rfl (by decide) (by rfl) (by rfl) H27.drop.pick4 hr27 (by simp [Value.oneCell']) (by simp only [maxLen]; omega) (by omega) ?_
          intro v28 w28 H28
          obtain ⟨a28, c28, rfl⟩ := H28.rowRd.form
          refine hK.out _ _ (H28.frz (le24.blk _ _ hb1) 0) (fun _ => ?_)
          try simp only [Act.put, List.setIfInBounds_toArray, List.set_cons_zero, List.set_cons_succ]
          clear hK K
          obtain ⟨l7, n7, c7, z7⟩ := Holds.facts H28.pick4
          refine wpAnyH_ready (rs := [6]) (by kernel_rfl) (by simp) ?_
          refine AllReadyH.cons rfl (fun K hK => ?_) AllReadyH.nil
          go_simp
          have H29 := H28.pick4.set 0 (.slice a28 (q.length + 1) c28)
          refine hK.out _ _ (H29.frz (le24.blk _ _ hb1) 0) (fun _ => ?_)
          clear hK K
          refine wpAnyH_done (by kernel_rfl) ?_ _
          have hsz : W.heap.size ≤ (w28.setCell ⟨g7, 0, none⟩ (.slice a28 (q.length + 1) c28)).heap.size := by
            obtain ⟨_, _, h⟩ := wr_open H29.pick4
            have := h.blkLt
            rw [← HPB.out]; omega
          exact HF.out _ _ (.slice a28 (q.length + 1) c28, q ++ [(.slice ao 64 co, sealS bd)]) R24 le24 (by rw [HPB.out]; exact hsz) (by rw [List.map_append, hq, HBD.out, HXI.out]; simp) (by
            unfold outA
            simp only [List.map_append, List.length_append, List.length_singleton, List.map_cons, List.map_nil, bytesAll_append, bytesAll_one]
            exact (H29.pick4.drop).ac (by ac_rfl))
  case done =>
    rintro D xs ⟨v, q⟩ W rfl hq H16 hput hD
    unfold outA at H16
    simp only at H16
    obtain ⟨l7, n7, c7, z7⟩ := Holds.facts (H16)
    go_wp2_with fail
    rw [HQ0.out]
    refine ⟨by simp, .inl ⟨_, _, rfl, run_takeDeferred hD, ?_⟩⟩
    refine ⟨_, results_tmp2 rfl _ _ _, v, q, rfl, ?_, ?_⟩
    · rw [hq, HHD.out]
      show _ = sealS _ :: (List.range (bodiesN share.length)).map _
      rw [← HN.out]
      congr 1
      apply List.ext_getElem
      · simp
      · intro i h1 h2
        simp
    · have h := (hput (.deferred none)).weaken (leA.trans le3)
      unfold outA at h
      exact h.drop
end Sh
/- slices.Delete of messages; bag.Take. -/
set_option linter.unusedVariables false
set_option linter.unusedSimpArgs false
namespace Sh
open Go Go.RowKit Go.Proofs
attribute [local go_sem ↓] Go.wp_at_zero Go.wp_at_succ
set_option maxHeartbeats 1000000
set_option maxRecDepth 100000

theorem zeroMsg (w : World) : (zeroValue tMsg).run Try.prog w = .ok (.agg zeroMs) w := by kernel_rfl
theorem zeroMsg1 : (Builtin.zeroCells (Value.agg zeroMs).cells 1).toList = zeroMs.toList := by first | kernel_rfl | (simp [Builtin.zeroCells, Value.cells]) | decide
theorem delete_spec {w : World} {R : Snap} {L : Asrt} {g m cap i : Nat} {l : List Ms} (H : Holds w R (star (row tMsg 13 (.slice (some ⟨g, 0, none⟩) (m + 1) cap) (m + 1) (l.flatMap Ms.cells)) L)) (hlm : l.length = m + 1) (hi : i ≤ m) (hm : m ≤ 1000000) (hone : ∀ u ∈ l.flatMap Ms.cells, u.oneCell' = true) :
    Calls Try.prog 112 #[.slice (some ⟨g, 0, none⟩) (m + 1) cap, .int .i64 i, .int .i64 ((i : Int) + 1)] w fun e w' => e = .returned (.slice (some ⟨g, 0, none⟩) m cap) ∧ Holds w' R (star (row tMsg 13 (.slice (some ⟨g, 0, none⟩) m cap) m ((l.take i ++ l.drop (i + 1)).flatMap Ms.cells)) L) := by
  obtain ⟨news, hnews⟩ : ∃ news, news = (l.drop (i + 1)).flatMap Ms.cells := ⟨_, rfl⟩
  have hlen : news.length = (m - i) * 13 := by rw [hnews, flat_len Ms.cells 13 Ms.cells_len, List.length_drop, hlm]; congr 1; omega
  have hone2 : ∀ u ∈ news, u.oneCell' = true := by
    intro u hu
    rw [hnews] at hu
    obtain ⟨x, hx, hu⟩ := List.mem_flatMap.1 hu
    exact hone u (List.mem_flatMap.2 ⟨x, List.mem_of_mem_drop hx, hu⟩)
  obtain ⟨cur, hg, hcur, hcap, htk, _⟩ := H.rowAll
  have hget : ∀ t u, news[t]? = some u → cur[(i + 1) * 13 + t]? = some u := by
    intro t u hu
    have h2 : (l.flatMap Ms.cells)[(i + 1) * 13 + t]? = some u := by
      rw [hnews] at hu
      rw [← flat_drop Ms.cells 13 Ms.cells_len, List.getElem?_drop] at hu
      exact hu
    rw [← htk, List.getElem?_take] at h2
    split at h2
    · simpa using h2
    · cases h2
  have cg := cell_of_blk hg
  have fg := frozen_of_blk hg
  have lg : g < w.heap.size := (Array.getElem?_eq_some_iff.1 hg).1
  obtain ⟨A, hA, hsrc⟩ : ∃ A : Addr, adr (some ⟨g, 0, none⟩) cap (i + 1) 13 = some A ∧ Hid (∀ t u, news[t]? = some u → w.drew.cell? (A.add t) = some u) := by
    by_cases h : cap = i + 1
    · refine ⟨⟨g, 0, none⟩, by simp [adr, h], fun t u hu => ?_⟩
      have h0 : news.length = 0 := by rw [hlen, show m - i = 0 by omega, Nat.zero_mul]
      rw [List.length_eq_zero_iff.1 h0] at hu
      simp at hu
    · refine ⟨⟨g, (i + 1) * 13, none⟩, by rw [adr, if_neg h]; simp [add_plain], fun t u hu => ?_⟩
      rw [add_plain]
      exact (cg _).trans (hget t u hu)
  have s1 : Hid (news.length = (m - i) * 13) := hlen
  have s2 : Hid (∀ u ∈ news, u.oneCell' = true) := hone2
  have s3 : Hid (∀ t, t < news.length → (w.drew.cell? ⟨g, 0 + i * 13 + t, none⟩).isSome = true ∧ w.drew.frozen? ⟨g, 0 + i * 13 + t, none⟩ = false) := by
    intro t ht
    have hb : 0 + i * 13 + t < cur.size := by rw [hlen] at ht; rw [hcur]; have := Nat.mul_le_mul_right 13 hcap; omega
    exact ⟨by show (w.cell? _).isSome = true; rw [cg, Array.getElem?_eq_getElem hb]; rfl, fg _⟩
  have H1 := Holds.rowSetCells news (0 + i * 13) _ _ H.drew (by rw [hlen]; omega)
  obtain ⟨W1, hW1⟩ : ∃ W1, W1 = w.drew.setCells g (0 + i * 13) news := ⟨_, rfl⟩
  rw [← hW1] at H1
  have hW : Hid (W1 = w.drew.setCells g (0 + i * 13) news) := hW1
  obtain ⟨cur2, hg2, hcur2, _, _, _⟩ := H1.rowAll
  have hcl : ∀ ty, (Builtin.clear_ #[tMsgs] ty #[.slice (some ⟨g, m * 13, none⟩) 1 (cap - m)]).run Try.prog W1 = .ok (.tuple #[]) (W1.setCells g (m * 13) zeroMs.toList) :=
    fun ty => run_clear_wide W1 _ _ ty _ zeroMs.toList undMsgs zeroMsg 1 zeroMsg1 (by simp [Value.oneCell']) g (m * 13) _ (by omega) (fun j hj => by
      have hj : j < 13 := hj
      rw [cell_of_blk hg2, Array.getElem?_eq_getElem (by rw [hcur2]; have := Nat.mul_le_mul_right 13 hcap; omega)]; rfl) (fun j hj => frozen_of_blk hg2 _)
  have H2 := Holds.rowSetCells zeroMs.toList (m * 13) _ _ H1 (by show m * 13 + 13 ≤ (m + 1) * 13; omega)
  have H3 := H2.rowShrink m (by omega)
  have hfin : Hid (Holds (W1.setCells g (m * 13) zeroMs.toList) R (star (row tMsg 13 (.slice (some ⟨g, 0, none⟩) m cap) m ((l.take i ++ l.drop (i + 1)).flatMap Ms.cells)) L)) := by
    refine Hid.mk' ?_
    have e : ((((l.flatMap Ms.cells).take (0 + i * 13) ++ (news ++ (l.flatMap Ms.cells).drop (0 + i * 13 + news.length))).take (m * 13)) ++ (zeroMs.toList ++ (((l.flatMap Ms.cells).take (0 + i * 13) ++ (news ++ (l.flatMap Ms.cells).drop (0 + i * 13 + news.length))).drop (m * 13 + zeroMs.toList.length)))).take (m * 13) = (l.take i ++ l.drop (i + 1)).flatMap Ms.cells := by
      have hl2 : (l.flatMap Ms.cells).length = (m + 1) * 13 := by rw [flat_len Ms.cells 13 Ms.cells_len, hlm]
      have e1 : ((l.flatMap Ms.cells).take (0 + i * 13)) = (l.take i).flatMap Ms.cells := by rw [Nat.zero_add, flat_take Ms.cells 13 Ms.cells_len]
      have hl3 : ((l.take i).flatMap Ms.cells).length = i * 13 := by rw [flat_len Ms.cells 13 Ms.cells_len, List.length_take]; congr 1; omega
      have hmi : i * 13 + (m - i) * 13 = m * 13 := by omega
      rw [List.take_append_of_le_length (by rw [List.length_take, e1]; simp only [List.length_append, hl3, hlen, List.length_drop, hl2]; omega), List.take_take, Nat.min_self, e1, ← List.append_assoc, List.take_append_of_le_length (by rw [List.length_append, hl3, hlen]; omega), List.take_of_length_le (by rw [List.length_append, hl3, hlen]; omega), hnews, List.flatMap_append]
    rw [e] at H3
    exact H3
  have j1 : i ≤ cap := by omega
  have j2 : i ≤ m := by omega
  have j3 : m + 1 ≤ cap := by omega
  have j4 : i + 1 ≤ cap := by omega
  have j5 : (0 : Int) ≤ (i : Int) + 1 := by omega
  have k1 : ((i : Int) == (i : Int) + 1) = false := by rw [beq_eq_false_iff_ne]; omega
  have k2 : ((m + 1 : Nat) : Int) = (m : Int) + 1 := by omega
  have i1 : (0 : Int) ≤ (i : Int) := by omega
  have i2 : (i : Int) + 1 ≤ (m : Int) + 1 := by omega
  have i3 : (m : Int) + 1 ≤ (cap : Int) := by omega
  have n1 : ((i : Int) + 1).toNat = i + 1 := by omega
  have n2 : m + 1 - (i + 1) = m - i := by omega
  clear H H1 H2 H3 hg hcur hcap htk hget cg fg lg hg2 hcur2 hnews hlen hone2 hone hW1
  obtain ⟨i0, hi0, _, hz1, _⟩ := info_parts infoMsg
  go_enter Try.func112, Try.ntmps112
  go_wp2_with fail
  go_region_law (refine step_append_room rfl (.tmp 22) (.tmp 25) tMsgs rfl tMsg i0 13 undMsgs hi0 hz1 g 0 i cap (by simp [Act.eval, Act.put]) A (m - i) (cap - (i + 1)) news (by simp [Act.eval, Act.put, hA]) s1.out hsrc.out s2.out (by omega) s3.out ?_; rw [← hW.out])
  have n3 : ((i + (m - i) : Nat) : Int) = (m : Int) := by omega
  have n4 : i + (m - i) = m := by omega
  go_wp2_with fail
  go_ret
  exact ⟨rfl, hfin.out⟩

theorem btake_none {w : World} {R : Snap} {L : Asrt} {p : Nat} {l : List Ms} {n : Int} (H : Holds w R (star (bagA p l) L)) (h : n < 0 ∨ (l.length : Int) ≤ n) :
    Calls Try.prog 39 #[.pointer (some ⟨p, 0, none⟩), .int .i64 n] w fun e w' => e = .returned (.tuple #[.agg zeroMs, .bool false]) ∧ Holds w' R (star (bagA p l) L) := by
  have H2 := H.alloc zeroMs tMsg
  by_cases h0 : n < 0
  · have t0 : decide (n < 0) = true := by simpa using h0
    go_enter Try.func39, Try.ntmps39
    go_wp2_with fail
    refine bodyPost_ret (results_cell2 rfl _ _ w.heap.size tMsg _ (0, 0) _ rfl H2.blkAt Try.underlying63 rfl (by kernel_rfl)) rfl ?_
    exact ⟨rfl, H2.drop⟩
  · have t0 : decide (n < 0) = false := by simpa using h0
    have t1 : decide ((l.length : Int) ≤ n) = true := by simp; omega
    go_enter Try.func39, Try.ntmps39
    go_wp2_with fail
    refine (blen_spec H2.swap).mono ?_
    rintro e w2 ⟨rfl, rfl⟩
    go_wp2_with fail
    refine bodyPost_ret (results_cell2 rfl _ _ w.heap.size tMsg _ (0, 0) _ rfl H2.blkAt Try.underlying63 rfl (by kernel_rfl)) rfl ?_
    exact ⟨rfl, H2.drop⟩
theorem btake_nil {w : World} {R : Snap} {L : Asrt} (H : Holds w R L) :
    Calls Try.prog 39 #[.pointer none, .int .i64 0] w fun e w' => e = .returned (.tuple #[.agg zeroMs, .bool false]) ∧ Holds w' R L := by
  have H2 := H.alloc zeroMs tMsg
  go_enter Try.func39, Try.ntmps39
  go_wp2_with fail
  refine blen_nil.mono ?_
  rintro e w2 ⟨rfl, rfl⟩
  go_wp2_with fail
  refine bodyPost_ret (results_cell2 rfl _ _ w.heap.size tMsg _ (0, 0) _ rfl H2.blkAt Try.underlying63 rfl (by kernel_rfl)) rfl ?_
  exact ⟨rfl, H2.drop⟩
theorem msgs_one {R : Snap} {l : List Ms} (h : ∀ m ∈ l, m.Rd R.cell?) : ∀ u ∈ l.flatMap Ms.cells, u.oneCell' = true := by
  intro u hu
  obtain ⟨x, hx, hu⟩ := List.mem_flatMap.1 hu
  exact (h x hx).one u hu
theorem btake_some {w : World} {R : Snap} {L : Asrt} {p i : Nat} {l : List Ms} {m : Ms} (H : Holds w R (star (bagA p l) L)) (hl : ∀ m ∈ l, m.Rd R.cell?) (hi : l[i]? = some m) (hn : l.length ≤ 1000000) :
    Calls Try.prog 39 #[.pointer (some ⟨p, 0, none⟩), .int .i64 i] w fun e w' => e = .returned (.tuple #[.agg m.cells.toArray, .bool true]) ∧ Holds w' R (star (bagA p (l.take i ++ l.drop (i + 1))) L) := by
  obtain ⟨hil, hmi⟩ := List.getElem?_eq_some_iff.1 hi
  obtain ⟨a, c, H1⟩ := bag_open H
  obtain ⟨k, hk⟩ : ∃ k, l.length = k + 1 := ⟨l.length - 1, by omega⟩
  obtain ⟨bl, ol, rfl, hx⟩ := rd_elt (f := Ms.cells) Ms.cells_len H1.swap.rowRd (by decide) hil
  obtain ⟨g, cg, hga, _, hg, _, _⟩ := H1.swap.rowAt (by omega)
  simp only [Value.slice.injEq, Option.some.injEq, Addr.mk.injEq, true_and, and_true] at hga
  obtain ⟨⟨rfl, rfl⟩, rfl⟩ := hga
  rw [hmi] at hx
  have hm := hl m (by rw [← hmi]; exact List.getElem_mem hil)
  have HO := Hid.mk' (msgs_one hl)
  have HK := Hid.mk' hk
  have hng : w.heap.size ≠ bl := by omega
  rw [hk] at H1
  obtain ⟨kind, from_, to_, ballot, name, attempt, epoch, mark, size, what, vw, vn, vd, who, names, data⟩ := m
  obtain ⟨hw, hn, hd⟩ := hm
  simp only at hw hn hd
  obtain ⟨aw, cw, rfl⟩ := hw.form
  obtain ⟨an, cn, rfl⟩ := hn.form
  obtain ⟨ad, cd, rfl⟩ := hd.form
  have m0 : w.cell? ⟨bl, 0 + i * 13, none⟩ = some (.int .i64 kind) := hx 0 _ (by omega) rfl
  have m1 : w.cell? ⟨bl, 0 + i * 13 + 1, none⟩ = some (.int .i64 from_) := hx 1 _ (by omega) rfl
  have m2 : w.cell? ⟨bl, 0 + i * 13 + 2, none⟩ = some (.int .i64 to_) := hx 2 _ (by omega) rfl
  have m3 : w.cell? ⟨bl, 0 + i * 13 + 3, none⟩ = some (.int .i64 ballot) := hx 3 _ (by omega) rfl
  have m4 : w.cell? ⟨bl, 0 + i * 13 + 4, none⟩ = some (.string name) := hx 4 _ (by omega) rfl
  have m5 : w.cell? ⟨bl, 0 + i * 13 + 5, none⟩ = some (.int .i64 attempt) := hx 5 _ (by omega) rfl
  have m6 : w.cell? ⟨bl, 0 + i * 13 + 6, none⟩ = some (.int .i64 epoch) := hx 6 _ (by omega) rfl
  have m7 : w.cell? ⟨bl, 0 + i * 13 + 7, none⟩ = some (.int .i64 mark) := hx 7 _ (by omega) rfl
  have m8 : w.cell? ⟨bl, 0 + i * 13 + 8, none⟩ = some (.int .i64 size) := hx 8 _ (by omega) rfl
  have m9 : w.cell? ⟨bl, 0 + i * 13 + 9, none⟩ = some (.int .i64 what) := hx 9 _ (by omega) rfl
  have m10 : w.cell? ⟨bl, 0 + i * 13 + 10, none⟩ = some (.slice aw who.length cw) := hx 10 _ (by omega) rfl
  have m11 : w.cell? ⟨bl, 0 + i * 13 + 11, none⟩ = some (.slice an names.length cn) := hx 11 _ (by omega) rfl
  have m12 : w.cell? ⟨bl, 0 + i * 13 + 12, none⟩ = some (.slice ad data.length cd) := hx 12 _ (by omega) rfl
  simp only [Nat.zero_add] at m0 m1 m2 m3 m4 m5 m6 m7 m8 m9 m10 m11 m12
  have t0 : decide ((i : Int) < 0) = false := by simp
  have t1 : decide (((k + 1 : Nat) : Int) ≤ (i : Int)) = false := by simp; omega
  have i1 : (i : Int) < ((k + 1 : Nat) : Int) := by omega
  have i0 : (0 : Int) ≤ (i : Int) := by omega
  have hk9 : k ≤ 1000000 := by omega
  have hik : i ≤ k := by omega
  clear hx hw hn hd hl hi hil hmi
  have HB := H.alloc zeroMs tMsg
  obtain ⟨l1, n1, c1, z1⟩ := Holds.facts (H1)
  have H2 := H1.alloc zeroMs tMsg
  go_enter Try.func39, Try.ntmps39
  go_wp2_with fail
  refine (blen_spec HB.swap).mono ?_
  rintro e w2 ⟨rfl, rfl⟩
  rw [HK.out]
  go_wp2_with fail
  have H4 := (H2.alloc #[.int .i64 kind, .int .i64 from_, .int .i64 to_, .int .i64 ballot, .string name, .int .i64 attempt, .int .i64 epoch, .int .i64 mark, .int .i64 size, .int .i64 what, .slice aw who.length cw, .slice an names.length cn, .slice ad data.length cd] tMsg).pick4
  simp only [World.size_alloc] at H4
  clear HB H H1 H2 l1 n1 c1 z1
  clear m0 m1 m2 m3 m4 m5 m6 m7 m8 m9 m10 m11 m12
  generalize (World.alloc ..) = w4 at H4 ⊢
  generalize w.heap.size + 1 = gx at H4 ⊢
  generalize w.heap.size = gz at H4 hng hg ⊢
  refine (delete_spec H4 HK.out hik hk9 HO.out).mono ?_
  rintro e w5 ⟨rfl, H5⟩
  clear H4
  obtain ⟨l1, n1, c1, z1⟩ := Holds.facts (H5.swap)
  obtain ⟨l2, n2, c2, z2⟩ := Holds.facts (H5.pick3)
  obtain ⟨l3, n3, c3, z3⟩ := Holds.facts (H5.pick4)
  obtain ⟨s1, s2⟩ := Holds.apart H5.drop
  obtain ⟨s3, s4⟩ := Holds.apart H5.drop.pick3
  obtain ⟨s5, s6⟩ := Holds.apart H5.drop.pick3.drop2
  go_wp2_with fail
  have H6 := (H5.pick4.set 0 (.slice (some ⟨bl, 0, none⟩) k c)).pick4
  have H9 := H6.blkFull [.int .i64 kind, .int .i64 from_, .int .i64 to_, .int .i64 ballot, .string name, .int .i64 attempt, .int .i64 epoch, .int .i64 mark, .int .i64 size, .int .i64 what, .slice aw who.length cw, .slice an names.length cn, .slice ad data.length cd] rfl
  clear H6 H5 l1 n1 c1 z1 l2 n2 c2 z2 l3 n3 c3 z3
  generalize hw9 : World.setCell .. = w9
  replace H9 := Holds.at hw9 H9
  clear hw9
  refine bodyPost_ret (results_cell2 rfl _ _ gz tMsg _ (0, 0) _ rfl H9.blkAt Try.underlying63 rfl (by kernel_rfl)) rfl ?_
  refine ⟨rfl, bag_shut (v := .slice (some ⟨bl, 0, none⟩) k c) ?_⟩
  have e : (l.take i ++ l.drop (i + 1)).length = k := by rw [List.length_append, List.length_take, List.length_drop, HK.out]; omega
  rw [e]
  exact H9.drop.pick3.drop
end Sh
/- record.first: what a head says. -/
set_option linter.unusedVariables false
set_option linter.unusedSimpArgs false
namespace Sh
open Go Go.RowKit Go.Proofs
attribute [local go_sem ↓] Go.wp_at_zero Go.wp_at_succ
set_option maxHeartbeats 1000000
set_option maxRecDepth 100000

abbrev zeroRec : Array Value := #[.int .i64 0, .string ⟨#[]⟩, .int .i64 0, .int .i64 0, .int .i64 0, .int .i64 0, .slice none 0 0]
theorem rcOk_bounds {r : Rc} (hok : rcOk r = true) : nameOk r.name = true ∧ (0 ≤ r.attempt ∧ r.attempt ≤ 4294967295) ∧ (0 ≤ r.epoch ∧ r.epoch ≤ 4294967295) ∧ (0 ≤ r.mark ∧ r.mark ≤ 4294967295) ∧ (0 ≤ r.size ∧ r.size ≤ 240) ∧ r.share.length ≤ 240 ∧ (1 ≤ r.kind ∧ r.kind ≤ 5) := by
  have hk := hok
  simp only [rcOk, Bool.and_eq_true] at hk
  obtain ⟨⟨⟨k1, k2⟩, k3⟩, _⟩ := hk
  have f5 := inAll_mem k3 (x := (r.share.length : Int)) (by simp)
  refine ⟨k1, inAll_mem k2 (x := r.attempt) (by simp), inAll_mem k2 (x := r.epoch) (by simp), inAll_mem k2 (x := r.mark) (by simp), inAll_mem k3 (x := r.size) (by simp), by omega, ?_⟩
  have h := hok
  simp only [rcOk, Bool.and_eq_true, rcKind] at h
  have h := h.2
  split at h
  · omega
  · split at h
    · omega
    · split at h
      · omega
      · split at h
        · omega
        · cases h
theorem num_at {s : PSt} {k : Nat} {n : Int} {r : List UInt8} (h : s = (nb k n ++ r, false)) (hk : wid k = k) (h0 : 0 ≤ n) (h1 : n < 256 ^ k) : ((pNum k s).1 : Int) = n ∧ (pNum k s).2 = (r, false) := by
  rw [h, pNum_nb hk h0 h1]
  exact ⟨Int.toNat_of_nonneg h0, rfl⟩
theorem head_parse {r : Rc} {p : List UInt8} (hok : rcOk r = true) (hp : headR r <+: p) {a1 a2 a3 a4 a5 a6 : Nat × PSt} {q : List UInt8 × PSt} (h1 : a1 = pNum 1 (p.drop 1, false)) (hq : q = pRaw 16 (pNum 1 a1.2).2) (h2 : a2 = pNum 4 q.2) (h3 : a3 = pNum 4 a2.2) (h4 : a4 = pNum 4 a3.2) (h5 : a5 = pNum 2 a4.2) (h6 : a6 = pNum 1 a5.2) :
    (a1.1 : Int) = r.kind ∧ (∃ t, a1.2 = (nameB r.name ++ t, false)) ∧ (a2.1 : Int) = r.attempt ∧ (a3.1 : Int) = r.epoch ∧ (a4.1 : Int) = r.mark ∧ (a5.1 : Int) = r.size ∧ a6.1 = r.share.length := by
  obtain ⟨k1, f1, f2, f3, f4, f5, f6⟩ := rcOk_bounds hok
  obtain ⟨t, ht⟩ := hp
  have hd : p.drop 1 = nb 1 r.kind ++ (nameB r.name ++ (nb 4 r.attempt ++ (nb 4 r.epoch ++ (nb 4 r.mark ++ (nb 2 r.size ++ (nb 1 (r.share.length : Int) ++ t)))))) := by
    rw [← ht, headR]
    simp only [List.append_assoc]
    have : (nb 1 72).length = 1 := by rw [nb_length]; rfl
    exact List.drop_left' this
  obtain ⟨e1, s1⟩ := num_at (k := 1) (s := (p.drop 1, false)) (n := r.kind) (by rw [hd]; rfl) (by decide) (by omega) (show r.kind < 256 ^ 1 by omega)
  rw [← h1] at e1 s1
  have hn := (name_parse k1 s1).2
  rw [← hq] at hn
  have sq : q.2 = (nb 4 r.attempt ++ (nb 4 r.epoch ++ (nb 4 r.mark ++ (nb 2 r.size ++ (nb 1 (r.share.length : Int) ++ t)))), false) := by rw [hn]
  obtain ⟨e2, s2⟩ := num_at (k := 4) sq (by decide) f1.1 (show r.attempt < 256 ^ 4 by omega)
  rw [← h2] at e2 s2
  obtain ⟨e3, s3⟩ := num_at (k := 4) s2 (by decide) f2.1 (show r.epoch < 256 ^ 4 by omega)
  rw [← h3] at e3 s3
  obtain ⟨e4, s4⟩ := num_at (k := 4) s3 (by decide) f3.1 (show r.mark < 256 ^ 4 by omega)
  rw [← h4] at e4 s4
  obtain ⟨e5, s5⟩ := num_at (k := 2) s4 (by decide) f4.1 (show r.size < 256 ^ 2 by omega)
  rw [← h5] at e5 s5
  obtain ⟨e6, s6⟩ := num_at (k := 1) s5 (by decide) (by omega) (show (r.share.length : Int) < 256 ^ 1 by omega)
  rw [← h6] at e6
  exact ⟨e1, ⟨_, s1⟩, e2, e3, e4, e5, by omega⟩
set_option maxHeartbeats 4000000
theorem first_spec {w : World} {R : Snap} {L : Asrt} {v : Value} {p : List UInt8} (H : Holds w R L) (hr : RdB R.cell? v p) (hp60 : p.length = 60) :
    Calls Try.prog 158 #[v] w fun e w' => ∃ (M : Rc) (lg : Nat), e = .returned (.tuple #[.agg M.cells.toArray, .int .i64 (lg : Nat)]) ∧ M.vs = .slice none 0 0 ∧ M.share = [] ∧ M.name.size ≤ 16 ∧ lg < 256 ∧ (∀ r : Rc, rcOk r = true → headR r <+: p → M.kind = r.kind ∧ M.name = r.name ∧ M.attempt = r.attempt ∧ M.epoch = r.epoch ∧ M.mark = r.mark ∧ M.size = r.size ∧ lg = r.share.length) ∧ Holds w' R L := by
  obtain ⟨a0, c0, rfl⟩ := hr.form
  have hB := hr.bounds
  have hr0 := RdB.sub hr 1 60 c0 (by decide) (by omega) (by omega) (Nat.le_refl _)
  rw [List.take_of_length_le (by rw [List.length_drop]; omega)] at hr0
  have hlen : (p.drop 1).length ≤ 1000000 := by rw [List.length_drop]; omega
  have hc60 : 60 ≤ c0 := by omega
  have H1 := H.alloc zeroRec tRec
  have HP := Hid.mk' hp60
  simp only [hp60]
  clear hr hB H hp60
  go_enter Try.func158, Try.ntmps158
  go_wp2_with fail
  generalize (World.alloc ..) = w1 at H1 ⊢
  generalize w.heap.size = z at H1 ⊢
  refine (read_spec H1 hr0).mono ?_
  rintro e w2 ⟨p3, rfl, H2⟩
  clear H1
  have H7 := (H2.alloc zeroRec tRec).swap
  go_wp2_with fail
  generalize (World.alloc ..) = w7 at H7 ⊢
  generalize w2.heap.size = g9 at H7 ⊢
  clear H2
  have hr1 := hr0
  have hl1 := hlen
  clear hr0 hlen
  refine (rd_num (s := (p.drop 1, false)) (k := 1) (by decide) H7 hr1).mono ?_
  rintro e w8 ⟨v2, rfl, H8, hr2⟩
  have hl2 := Nat.le_trans (pNum_le 1 (p.drop 1, false)) hl1
  obtain ⟨a1, ha⟩ : ∃ a, a = pNum 1 (p.drop 1, false) := ⟨_, rfl⟩
  rw [← ha] at H8 hr2 hl2 ⊢
  have A1 := Hid.mk' ha
  clear ha H7 hr1 hl1
  obtain ⟨l8, n8, c8, z8⟩ := Holds.facts (H8.swap)
  go_upto_region 4 with fail
  have H9 := (H8.swap.set 0 (.int .i64 ((a1.1 : Nat) : Int))).swap
  replace H9 : Holds _ R (star (blk p3 #[v2, .bool a1.2.2] rdrT) (star (blk g9 #[.int .i64 ((a1.1 : Nat) : Int), .string ⟨#[]⟩, .int .i64 0, .int .i64 0, .int .i64 0, .int .i64 0, .slice none 0 0] tRec) (star (blk z zeroRec tRec) L))) := H9
  clear H8 l8 n8 c8 z8
  generalize (World.setCell ..) = w9 at H9 ⊢
  have H7 := H9
  have hr1 := hr2
  have hl1 := hl2
  clear H9 hr2 hl2
  go_wp2_with fail
  refine (lget_spec (s := a1.2) H7 hr1 hl1).mono ?_
  rintro e w8 ⟨nm, ob, v2, rfl, H8, hr2, hns, hnc⟩
  obtain ⟨q, hq⟩ : ∃ q, q = pRaw 16 (pNum 1 a1.2).2 := ⟨_, rfl⟩
  rw [← hq] at H8 hr2
  have hl2 : q.2.1.length ≤ 1000000 := by
    rw [hq]
    exact Nat.le_trans (cutRest_le _ _ _) (Nat.le_trans (pNum_le 1 a1.2) hl1)
  have HQ := Hid.mk' hq
  have HNC := Hid.mk' hnc
  clear hq hnc H7 hr1 hl1
  obtain ⟨l8, n8, c8, z8⟩ := Holds.facts (H8.swap)
  go_upto_region 5 with fail
  have H9 := (H8.swap.set 1 (.string nm)).swap
  replace H9 : Holds _ R (star (blk p3 #[v2, .bool q.2.2] rdrT) (star (blk g9 #[.int .i64 ((a1.1 : Nat) : Int), .string nm, .int .i64 0, .int .i64 0, .int .i64 0, .int .i64 0, .slice none 0 0] tRec) (star (blk z zeroRec tRec) L))) := H9
  clear H8 l8 n8 c8 z8
  generalize (World.setCell ..) = w9 at H9 ⊢
  have H7 := H9
  have hr1 := hr2
  have hl1 := hl2
  clear H9 hr2 hl2
  go_wp2_with fail
  refine (rd_num (s := q.2) (k := 4) (by decide) H7 hr1).mono ?_
  rintro e w8 ⟨v2, rfl, H8, hr2⟩
  have hl2 := Nat.le_trans (pNum_le 4 q.2) hl1
  obtain ⟨a2, ha⟩ : ∃ a, a = pNum 4 q.2 := ⟨_, rfl⟩
  rw [← ha] at H8 hr2 hl2 ⊢
  have A2 := Hid.mk' ha
  clear ha H7 hr1 hl1
  obtain ⟨l8, n8, c8, z8⟩ := Holds.facts (H8.swap)
  go_upto_region 6 with fail
  have H9 := (H8.swap.set 2 (.int .i64 ((a2.1 : Nat) : Int))).swap
  replace H9 : Holds _ R (star (blk p3 #[v2, .bool a2.2.2] rdrT) (star (blk g9 #[.int .i64 ((a1.1 : Nat) : Int), .string nm, .int .i64 ((a2.1 : Nat) : Int), .int .i64 0, .int .i64 0, .int .i64 0, .slice none 0 0] tRec) (star (blk z zeroRec tRec) L))) := H9
  clear H8 l8 n8 c8 z8
  generalize (World.setCell ..) = w9 at H9 ⊢
  have H7 := H9
  have hr1 := hr2
  have hl1 := hl2
  clear H9 hr2 hl2
  go_wp2_with fail
  refine (rd_num (s := a2.2) (k := 4) (by decide) H7 hr1).mono ?_
  rintro e w8 ⟨v2, rfl, H8, hr2⟩
  have hl2 := Nat.le_trans (pNum_le 4 a2.2) hl1
  obtain ⟨a3, ha⟩ : ∃ a, a = pNum 4 a2.2 := ⟨_, rfl⟩
  rw [← ha] at H8 hr2 hl2 ⊢
  have A3 := Hid.mk' ha
  clear ha H7 hr1 hl1
  obtain ⟨l8, n8, c8, z8⟩ := Holds.facts (H8.swap)
  go_upto_region 7 with fail
  have H9 := (H8.swap.set 3 (.int .i64 ((a3.1 : Nat) : Int))).swap
  replace H9 : Holds _ R (star (blk p3 #[v2, .bool a3.2.2] rdrT) (star (blk g9 #[.int .i64 ((a1.1 : Nat) : Int), .string nm, .int .i64 ((a2.1 : Nat) : Int), .int .i64 ((a3.1 : Nat) : Int), .int .i64 0, .int .i64 0, .slice none 0 0] tRec) (star (blk z zeroRec tRec) L))) := H9
  clear H8 l8 n8 c8 z8
  generalize (World.setCell ..) = w9 at H9 ⊢
  have H7 := H9
  have hr1 := hr2
  have hl1 := hl2
  clear H9 hr2 hl2
  go_wp2_with fail
  refine (rd_num (s := a3.2) (k := 4) (by decide) H7 hr1).mono ?_
  rintro e w8 ⟨v2, rfl, H8, hr2⟩
  have hl2 := Nat.le_trans (pNum_le 4 a3.2) hl1
  obtain ⟨a4, ha⟩ : ∃ a, a = pNum 4 a3.2 := ⟨_, rfl⟩
  rw [← ha] at H8 hr2 hl2 ⊢
  have A4 := Hid.mk' ha
  clear ha H7 hr1 hl1
  obtain ⟨l8, n8, c8, z8⟩ := Holds.facts (H8.swap)
  go_upto_region 8 with fail
  have H9 := (H8.swap.set 4 (.int .i64 ((a4.1 : Nat) : Int))).swap
  replace H9 : Holds _ R (star (blk p3 #[v2, .bool a4.2.2] rdrT) (star (blk g9 #[.int .i64 ((a1.1 : Nat) : Int), .string nm, .int .i64 ((a2.1 : Nat) : Int), .int .i64 ((a3.1 : Nat) : Int), .int .i64 ((a4.1 : Nat) : Int), .int .i64 0, .slice none 0 0] tRec) (star (blk z zeroRec tRec) L))) := H9
  clear H8 l8 n8 c8 z8
  generalize (World.setCell ..) = w9 at H9 ⊢
  have H7 := H9
  have hr1 := hr2
  have hl1 := hl2
  clear H9 hr2 hl2
  go_wp2_with fail
  refine (rd_num (s := a4.2) (k := 2) (by decide) H7 hr1).mono ?_
  rintro e w8 ⟨v2, rfl, H8, hr2⟩
  have hl2 := Nat.le_trans (pNum_le 2 a4.2) hl1
  obtain ⟨a5, ha⟩ : ∃ a, a = pNum 2 a4.2 := ⟨_, rfl⟩
  rw [← ha] at H8 hr2 hl2 ⊢
  have A5 := Hid.mk' ha
  clear ha H7 hr1 hl1
  obtain ⟨l8, n8, c8, z8⟩ := Holds.facts (H8.swap)
  go_upto_region 9 with fail
  have H9 := (H8.swap.set 5 (.int .i64 ((a5.1 : Nat) : Int))).swap
  replace H9 : Holds _ R (star (blk p3 #[v2, .bool a5.2.2] rdrT) (star (blk g9 #[.int .i64 ((a1.1 : Nat) : Int), .string nm, .int .i64 ((a2.1 : Nat) : Int), .int .i64 ((a3.1 : Nat) : Int), .int .i64 ((a4.1 : Nat) : Int), .int .i64 ((a5.1 : Nat) : Int), .slice none 0 0] tRec) (star (blk z zeroRec tRec) L))) := H9
  clear H8 l8 n8 c8 z8
  generalize (World.setCell ..) = w9 at H9 ⊢
  have H7 := H9
  have hr1 := hr2
  have hl1 := hl2
  clear H9 hr2 hl2
  go_wp2_with fail
  obtain ⟨l8, n8, c8, z8⟩ := Holds.facts (H7.swap)
  obtain ⟨l9, n9, c9, z9⟩ := Holds.facts (H7.pick3)
  obtain ⟨s1, s2⟩ := Holds.apart H7.drop
  have hlt := pNum1_lt a5.2
  have HLT := Hid.mk' hlt
  clear hlt
  go_region_law ((go_simp; go_at_call 127; refine (rd_num (s := a5.2) (k := 1) (by decide) H7.drew hr1).mono ?_; rintro e w10 ⟨v10, rfl, H10, hr10⟩; obtain ⟨l6, n6, c6, z6⟩ := Holds.facts H10.swap; obtain ⟨l7, n7, c7, z7⟩ := Holds.facts H10.pick3))
  all_goals
    clear l8 n8 c8 z8 l9 n9 c9 z9
    go_wp2_with fail
    have H13 := H10.pick3.blkFull [.int .i64 ((a1.1 : Nat) : Int), .string nm, .int .i64 ((a2.1 : Nat) : Int), .int .i64 ((a3.1 : Nat) : Int), .int .i64 ((a4.1 : Nat) : Int), .int .i64 ((a5.1 : Nat) : Int), .slice none 0 0] rfl
    clear l6 n6 c6 z6 l7 n7 c7 z7 H10
    generalize hw9 : World.setCell .. = w13
    replace H13 := Holds.at hw9 H13
    clear hw9
    refine bodyPost_ret (results_cell2 rfl _ _ z tRec _ (0, 0) _ rfl H13.blkAt Try.underlying108 rfl (by kernel_rfl)) rfl ?_
    refine ⟨(⟨((a1.1 : Nat) : Int), nm, ((a2.1 : Nat) : Int), ((a3.1 : Nat) : Int), ((a4.1 : Nat) : Int), ((a5.1 : Nat) : Int), .slice none 0 0, []⟩ : Rc), (pNum 1 a5.2).1, rfl, rfl, rfl, hns, HLT.out, fun r h1 h2 => ?_, H13.drop.drop.drop⟩
    obtain ⟨e1, ⟨t, e2⟩, e3, e4, e5, e6, e7⟩ := head_parse h1 h2 A1.out HQ.out A2.out A3.out A4.out A5.out rfl
    exact ⟨e1, HNC.out _ _ (rcOk_bounds h1).1 e2, e3, e4, e5, e6, e7⟩
end Sh
