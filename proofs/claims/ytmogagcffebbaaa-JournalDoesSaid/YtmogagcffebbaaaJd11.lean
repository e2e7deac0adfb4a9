/- RecPut RecRLabel MsgMany LabelGet: joined texts, each with its own sentence below. -/
import Derived.Test.YtmogagcffebbaaaJd10
import Derived.Shelf.Abstract
import Derived.Deep.RegionHeld3
import Derived.Test.YtmogagcffebbaaaJd6
import Derived.Test.YtmogagcffebbaaaJd5
import Derived.Test.YtmogagcffebbaaaJd7
import Derived.Test.YtmogagcffebbaaaJd9
import Derived.BigQuiet
import Derived.Test.YtmogagcffebbaaaJd8
import Derived.Test.YtmogagcffebbaaaJd4
import Derived.Laws.EntriesVeiled
/- record.Put. -/
set_option linter.unusedVariables false
set_option linter.unusedSimpArgs false
namespace Sh
open Go Go.RowKit Go.Proofs
attribute [local go_sem ↓] Go.wp_at_zero Go.wp_at_succ
set_option maxHeartbeats 1000000
set_option maxRecDepth 100000
attribute [local go_sem] Oper.semAt_some

def headR (r : Rc) : List UInt8 := nb 1 72 ++ (nb 1 r.kind ++ (nameB r.name ++ (nb 4 r.attempt ++ (nb 4 r.epoch ++ (nb 4 r.mark ++ (nb 2 r.size ++ nb 1 (r.share.length : Int)))))))
def pieceL (r : Rc) (i : Nat) : List UInt8 := (r.share.drop (i * 48)).take 48
def bodyR (r : Rc) (i : Nat) : List UInt8 := nb 1 66 ++ (nb 1 (i : Int) ++ (nb 1 r.kind ++ (nb 4 r.attempt ++ (nb 4 r.epoch ++ tx (pieceL r i)))))
def putR (r : Rc) : List (List UInt8) := sealS (headR r) :: (List.range (bodiesN r.share.length)).map fun i => sealS (bodyR r i)
theorem nameB_len {s : ByteArray} (h : nameOk s = true) : (nameB s).length = 17 := by
  have h1 := nameOk_le h
  rw [nameB, List.length_append, List.length_append, nb_length, wid_1, List.length_replicate]
  have := strB_sz s
  unfold strB at this
  omega
def outA (g : Nat) (L : Asrt) (b : Value × List (Value × List UInt8)) : Asrt := star (blk g #[b.1] tSecs) (star (row tBytes 1 b.1 b.2.length (b.2.map Prod.fst)) (star (bytesAll b.2) L))
theorem outA_celly {g : Nat} {L : Asrt} (h : L.celly) (b) : (outA g L b).celly := celly_star (celly_blk _ _ _) (celly_star (celly_row _ _ _ _ _) (celly_star (celly_bytes _) h))
set_option maxHeartbeats 8000000
theorem recPut_ok {w : World} {R : Snap} {L : Asrt} {p : Nat} (r : Rc) (H : Holds w R L) (hcy : L.celly) (hT : R.blk p = some (.cells (rowC 256) tabT (0, 0))) (hr : r.Rd R.cell?) (hz : r.Sz) (hok : rcOk r = true) :
    Calls Try.prog 74 #[.pointer (some ⟨p, 0, none⟩), .agg r.cells.toArray] w fun e w' => ∃ (o : Value) (q : List (Value × List UInt8)), e = .returned (.tuple #[o, .int .i64 0]) ∧ q.map (·.2) = putR r ∧ Holds w' R (star (row tBytes 1 o q.length (q.map (·.1))) (star (bytesAll q) L)) := by
  have HOK := Hid.mk' hok
  have hk := hok
  simp only [rcOk, Bool.and_eq_true] at hk
  obtain ⟨⟨⟨k1, k2⟩, k3⟩, _⟩ := hk
  have K1 := Hid.mk' k1
  have f1 := inAll_mem k2 (x := r.attempt) (by simp)
  have f2 := inAll_mem k2 (x := r.epoch) (by simp)
  have f3 := inAll_mem k2 (x := r.mark) (by simp)
  have f4 := inAll_mem k3 (x := r.size) (by simp)
  have f5 := inAll_mem k3 (x := (r.share.length : Int)) (by simp)
  have f6 : 1 ≤ r.kind ∧ r.kind ≤ 5 := by
    have h := hok
    simp only [rcOk, Bool.and_eq_true, rcKind] at h
    have h := h.2
    split at h
    · omega
    · split at h
      · omega
      · split at h
        · omega
        · split at h
          · omega
          · cases h
  have HNL := Hid.mk' (nameB_len K1.out)
  obtain ⟨kind, name, attempt, epoch, mark, size, vs, share⟩ := r
  obtain ⟨z1, z2⟩ := hz
  have hs := hr
  simp only [Rc.Rd] at z1 z2 hs
  obtain ⟨as_, cs_, rfl⟩ := hs.form
  simp only at f1 f2 f3 f4 f5 f6 HNL
  have hsh := Sh.Rd.max hs
  obtain ⟨N, hN⟩ : ∃ N, N = share.length := ⟨_, rfl⟩
  have HSB : Hid (RdB R.cell? (.slice as_ N cs_) share) := Hid.mk' (by rw [hN]; exact hs)
  have HN := Hid.mk' hN
  obtain ⟨R1, le1, H1, hb1⟩ := H.allocR (.cells #[.pointer (some ⟨p, 0, none⟩)] 79 (0, 0))
  obtain ⟨R2, le2, H2, hb2⟩ := H1.allocR (.cells #[.int .i64 kind, .string name, .int .i64 attempt, .int .i64 epoch, .int .i64 mark, .int .i64 size, .slice as_ share.length cs_] tRec (0, 0))
  replace hb1 := le2.blk _ _ hb1
  have leA := le1.trans le2
  have hT2 := leA.blk _ _ hT
  simp only [World.size_alloc] at hb2
  simp only [← hN] at hb2 H2 f5
  clear H H1 hT k1 k2 k3 hok le1 le2 hs hr
  show Calls _ _ #[_, .agg #[.int .i64 kind, .string name, .int .i64 attempt, .int .i64 epoch, .int .i64 mark, .int .i64 size, .slice as_ share.length cs_]] _ _
  simp only [← hN]
  rw [← hN] at hsh z2
  obtain ⟨f1a, f1b⟩ := f1
  obtain ⟨f2a, f2b⟩ := f2
  obtain ⟨f3a, f3b⟩ := f3
  obtain ⟨f4a, f4b⟩ := f4
  obtain ⟨f5a, f5b⟩ := f5
  obtain ⟨f6a, f6b⟩ := f6
  clear hN
  refine (callsIn_wide (n := 3)).1 (callsIn_of_wp_marks Try.func74 rfl trivial ?_ rfl)
  simp only [Try.ntmps74, List.size_toArray, List.length_cons, List.length_nil, Nat.reduceAdd, Nat.reduceSub, Array.replicate_succ, Array.replicate_zero, List.push_toArray, List.append_toArray, List.nil_append, List.cons_append]
  refine wpIn_wide.2 ?_
  obtain ⟨Q0, hQ0⟩ : ∃ Q0, Q0 = bodyPostM Fence.wide 3 Try.prog Try.f74 (fun e w' => ∃ (o : Value) (q : List (Value × List UInt8)), e = .returned (.tuple #[o, .int .i64 0]) ∧ q.map (·.2) = putR (⟨kind, name, attempt, epoch, mark, size, .slice as_ N cs_, share⟩ : Rc) ∧ Holds w' R (star (row tBytes 1 o q.length (q.map (·.1))) (star (bytesAll q) L))) := ⟨_, rfl⟩
  rw [← hQ0]
  have HQ0 := Hid.mk' hQ0
  clear hQ0
  go_upto_region 1 with fail
  generalize (World.alloc ..) = w2 at H2 ⊢
  generalize (w.heap.size + 1) = g2 at hb2 ⊢
  generalize w.heap.size = g1 at hb1 ⊢
  obtain ⟨l2, n2, c2⟩ := Holds.frzFacts (H2) hb2
  have hRS : Rc.Rd R2.cell? ⟨kind, name, attempt, epoch, mark, size, .slice as_ N cs_, share⟩ := Sh.Rd.le HSB.out leA
  go_wp2_with fail
  refine (recRight_spec (⟨kind, name, attempt, epoch, mark, size, .slice as_ N cs_, share⟩ : Rc) H2 hRS ⟨z1, by show share.length ≤ 1000000; rw [← HN.out]; omega⟩).mono ?_
  rintro e w3 ⟨rfl, H3⟩
  rw [show rcOk (⟨kind, name, attempt, epoch, mark, size, .slice as_ N cs_, share⟩ : Rc) = true from HOK.out]
  have HRS := Hid.mk' hRS
  clear H2 hRS l2 n2 c2
  have H4 : Holds _ R2 (star (wr _ []) L) := wr_shut (((H3.alloc #[.slice none 0 0] 153).nilRow tU8 1).swap)
  go_wp2_with fail
  generalize (World.alloc ..) = w4 at H4 ⊢
  generalize w3.heap.size = pw at H4 ⊢
  clear H3
  refine (num_spec H4 (by simp) (by omega)).mono ?_
  rintro e w9 ⟨rfl, H5⟩
  rw [List.nil_append] at H5
  clear H4
  obtain ⟨l2, n2, c2⟩ := Holds.frzFacts (H5) hb2
  go_wp2_with fail
  refine (num_spec H5 (by simp [nb_length, wid_1, wid_2, wid_4, HNL.out]) (by omega)).mono ?_
  rintro e w9 ⟨rfl, H6⟩
  clear H5 l2 n2 c2
  obtain ⟨l2, n2, c2⟩ := Holds.frzFacts (H6) hb2
  go_wp2_with fail
  refine (lput_spec H6 (by simp [nb_length, wid_1, wid_2, wid_4]) K1.out).mono ?_
  rintro e w9 ⟨rfl, H7⟩
  clear H6 l2 n2 c2
  obtain ⟨l2, n2, c2⟩ := Holds.frzFacts (H7) hb2
  go_wp2_with fail
  refine (num_spec H7 (by simp [nb_length, wid_1, wid_2, wid_4, HNL.out]) (by omega)).mono ?_
  rintro e w9 ⟨rfl, H8⟩
  clear H7 l2 n2 c2
  obtain ⟨l2, n2, c2⟩ := Holds.frzFacts (H8) hb2
  go_wp2_with fail
  refine (num_spec H8 (by simp [nb_length, wid_1, wid_2, wid_4, HNL.out]) (by omega)).mono ?_
  rintro e w9 ⟨rfl, H9⟩
  clear H8 l2 n2 c2
  obtain ⟨l2, n2, c2⟩ := Holds.frzFacts (H9) hb2
  go_wp2_with fail
  refine (num_spec H9 (by simp [nb_length, wid_1, wid_2, wid_4, HNL.out]) (by omega)).mono ?_
  rintro e w9 ⟨rfl, H10⟩
  clear H9 l2 n2 c2
  obtain ⟨l2, n2, c2⟩ := Holds.frzFacts (H10) hb2
  go_wp2_with fail
  refine (num_spec H10 (by simp [nb_length, wid_1, wid_2, wid_4, HNL.out]) (by omega)).mono ?_
  rintro e w9 ⟨rfl, H11⟩
  clear H10 l2 n2 c2
  obtain ⟨l2, n2, c2⟩ := Holds.frzFacts (H11) hb2
  go_wp2_with fail
  refine (num_spec H11 (by simp [nb_length, wid_1, wid_2, wid_4, HNL.out]) (by omega)).mono ?_
  rintro e w9 ⟨rfl, H12⟩
  clear H11 l2 n2 c2
  have eh : nb 1 72 ++ nb 1 kind ++ nameB name ++ nb 4 attempt ++ nb 4 epoch ++ nb 4 mark ++ nb 2 size ++ nb 1 (N : Int) = headR (⟨kind, name, attempt, epoch, mark, size, .slice as_ N cs_, share⟩ : Rc) := by
    simp only [headR, ← HN.out, List.append_assoc]
  rw [eh] at H12
  obtain ⟨hd, hhd⟩ : ∃ hd, hd = headR (⟨kind, name, attempt, epoch, mark, size, .slice as_ N cs_, share⟩ : Rc) := ⟨_, rfl⟩
  rw [← hhd] at H12 eh
  have hl : hd.length ≤ 60 := by rw [← eh]; simp [nb_length, wid_1, wid_2, wid_4, HNL.out]
  have HHD := Hid.mk' hhd
  clear eh hhd
  obtain ⟨l1, n1, c1⟩ := Holds.frzFacts (H12) hb1
  go_upto_region 12 with fail
  have H12a : Holds ((w9.alloc (.cells #[.slice none 0 0] tSecs)).drew) R2 (star (wr pw hd) (star (blk w9.heap.size #[.slice none 0 0] tSecs) L)) := ((H12.alloc #[.slice none 0 0] tSecs)).drew.swap
  go_cut [7] from 37 to 40 (fun s7 wx => ∃ (g7 : Nat) (v7 o : Value), s7 = .pointer (some ⟨g7, 0, none⟩) ∧ Holds wx R2 (star (blk g7 #[v7] tSecs) (star (row tBytes 1 v7 1 [o]) (star (rowB o (sealS hd)) L))))
  case first =>
    go_region_law (first | (go_simp; first | (go_at_call 118; first | (refine (bytes_spec H12.drew (by omega)).mono ?_; rintro e w21 ⟨v21, rfl, H21⟩; obtain ⟨R22, le22, H22, hr22⟩ := H21.freezeRow; obtain ⟨lx, nx, cx⟩ := Holds.frzFacts H22 (le22.blk _ _ hb1)) | (refine (bytes_spec H12a (by omega)).mono ?_; rintro e w21 ⟨v21, rfl, H21⟩; obtain ⟨R22, le22, H22, hr22⟩ := H21.freezeRow; obtain ⟨lx, nx, cx⟩ := Holds.frzFacts H22 (le22.blk _ _ hb1))) | (go_at_call 142; first | (refine (sseal_spec H22 (le22.blk _ _ hT2) hr22).mono ?_; rintro e w23 ⟨o, rfl, H23⟩; obtain ⟨ao, co, rfl⟩ := H23.rowRd.form; rw [sealS_len hl] at H23 ⊢; try (obtain ⟨l5, n5, k5, z5⟩ := Holds.facts H23.pick3)) | (refine (sseal_spec (H22.alloc #[.slice none 0 0] tSecs) (le22.blk _ _ hT2) hr22).mono ?_; rintro e w23 ⟨o, rfl, H23⟩; obtain ⟨ao, co, rfl⟩ := H23.rowRd.form; rw [sealS_len hl] at H23 ⊢; obtain ⟨l5, n5, k5, z5⟩ := Holds.facts H23.swap))))
    all_goals
      go_wp2_with fail
      go_meet
      case rel =>
        first
        | (have h := ((H23.drop2.alloc #[.slice ao 64 co] tBytes).toRow 1 1 1 (Nat.le_refl _) (by decide) rfl).alloc #[.slice (some ⟨w23.heap.size, 0, none⟩) 1 1] tSecs; rw [World.size_alloc] at h; exact ⟨_, _, .slice ao 64 co, rfl, h.weaken le22⟩)
        | (have h := ((H23.drop2.alloc #[.slice (some ⟨w23.heap.size + 1, 0, none⟩) 1 1] tSecs).alloc #[.slice ao 64 co] tBytes).toRow 1 1 1 (Nat.le_refl _) (by decide) rfl; rw [World.size_alloc] at h; exact ⟨_, _, .slice ao 64 co, rfl, h.swap.weaken le22⟩)
        | (have h := ((H23.pick3.drop.swap.set 0 (.slice (some ⟨w23.heap.size, 0, none⟩) 1 1)).alloc #[.slice ao 64 co] tBytes).toRow 1 1 1 (Nat.le_refl _) (by decide) rfl; rw [World.size_setCell] at h; exact ⟨_, _, .slice ao 64 co, rfl, h.swap.weaken le22⟩)
        | (have h := ((H23.drop2.swap.set 0 (.slice (some ⟨w23.heap.size, 0, none⟩) 1 1)).alloc #[.slice ao 64 co] tBytes).toRow 1 1 1 (Nat.le_refl _) (by decide) rfl; rw [World.size_setCell] at h; exact ⟨_, _, .slice ao 64 co, rfl, h.swap.weaken le22⟩)
  obtain ⟨g7, v7, o, rfl, H13⟩ := hcut
  clear H12 H12a l1 n1 c1
  obtain ⟨l2, n2, c2⟩ := Holds.frzFacts (H13) hb2
  go_wp2_with fail
  refine (recPieces_spec as_ N cs_ _).mono ?_
  rintro e w14 ⟨rfl, rfl⟩
  obtain ⟨R3, le3, H14, hb3⟩ := H13.allocR (.cells #[.slice as_ N cs_] tBytes (0, 0))
  clear l2 n2 c2
  go_wp2_with fail
  generalize (World.alloc ..) = w14 at H14 ⊢
  generalize wc.heap.size = g3 at hb3 ⊢
  clear H13
  have H15 : Holds w14 R3 (star (blk g7 #[v7] tSecs) (star (row tBytes 1 v7 1 [o]) (star (bytesAll [(o, sealS hd)]) L))) := by rw [bytesAll_one]; exact H14
  obtain ⟨b0, o0, ha⟩ : ∃ b0 o0, 0 < N → as_ = some ⟨b0, o0, none⟩ := by
    by_cases h : 0 < N
    · obtain ⟨b1, o1, h1, _⟩ := RdB.open (by have := HSB.out; rw [HN.out] at this; exact this) (by rw [← HN.out]; exact h)
      exact ⟨b1, o1, fun _ => h1⟩
    · exact ⟨0, 0, fun h' => absurd h' h⟩
  have hB : N ≤ cs_ ∧ cs_ ≤ maxLen := by have := HSB.out; rw [HN.out] at this ⊢; exact ⟨this.bounds.1, this.bounds.2.1⟩
  have hsq := recPieces_stops 2 (by decide) g3 N cs_ b0 o0 as_ ha (by omega) hB.1 hB.2 w14 (H14.blk g3 _ hb3)
  refine wp_range (encs := fun x : Fin (bodiesN N) => #[.int .i64 (x.1 : Nat), pieceV b0 o0 N cs_ x.1]) (R0 := R3) (A := outA g7 L) rfl (enters_of Try.func193 (by kernel_rfl) rfl) hsq (fun _ => rfl)
    (fun pre b => b.2.map (·.2) = sealS hd :: pre.map (fun i => sealS (bodyR (⟨kind, name, attempt, epoch, mark, size, .slice as_ N cs_, share⟩ : Rc) i.1))) ⟨_, hb3⟩ (outA_celly hcy) (v7, [(o, sealS hd)]) rfl H15
    (fun a x => { tmps := (((a.tmps.setIfInBounds 44 (.int .i64 (x.1 : Nat))).setIfInBounds 45 (pieceV b0 o0 N cs_ x.1)).setIfInBounds 8 (.int .i64 (x.1 : Nat))).setIfInBounds 9 (pieceV b0 o0 N cs_ x.1), defers := [] }) ?assign ?body ?done
  case assign =>
    intro l x W K hK
    gi_wp2
    exact hK
  case body =>
    rintro l pre x ⟨v, q⟩ W hq hlen H16
    refine wpIn_block ?_
    generalize hQB : Exit.inBlock 1 _ = QB
    have hL : ¬ LetsOut QB := by rw [← hQB]; exact fun ⟨_, _, h, _⟩ => by cases h
    have hfin : ∀ (a : Act) (W' : World) (b' : Value × List (Value × List UInt8)) (R' : Snap), (R3.big W).le R' → W.heap.size ≤ W'.heap.size → b'.2.map (·.2) = sealS hd :: (pre ++ [x]).map (fun i => sealS (bodyR (⟨kind, name, attempt, epoch, mark, size, .slice as_ N cs_, share⟩ : Rc) i.1)) → Holds W' R' (outA g7 L b') → QB .normal a W' := by
      rw [← hQB]; exact fun a W' b' R' h1 h2 h3 h4 => ⟨rfl, b', R', h1, h2, h3, h4⟩
    have hpan : ∀ c (a : Act) (W' : World), QB (.panic c) a W' → False := by rw [← hQB]; exact fun c a W' h => by cases h.1
    have HF := Hid.mk' hfin
    have HPN := Hid.mk' hpan
    clear hQB hfin hpan
    have leb := Snap.le_big R3 W
    have hp48 := x.2
    have hi : x.1 * 48 < N := by unfold bodiesN at hp48; omega
    have hpi := hb3
    replace hb1 := leb.blk _ _ (le3.blk _ _ hb1)
    replace hb2 := leb.blk _ _ (le3.blk _ _ hb2)
    replace hT2 := leb.blk _ _ (le3.blk _ _ hT2)
    obtain ⟨Rb, hRb⟩ : ∃ Rb, Rb = R3.big W := ⟨_, rfl⟩
    rw [← hRb] at H16 hb1 hb2 hT2 leb HF
    clear hRb
    unfold outA at H16
    simp only at H16
    refine seq_round (by rfl) hL (fun K hK => ?_)
    go_wp2_with fail
    have H17 : Holds _ Rb (star (wr _ []) _) := wr_shut (((H16.alloc #[.slice none 0 0] 153).nilRow tU8 1).swap)
    generalize (World.alloc ..) = w17 at H17 ⊢
    obtain ⟨pb, hpb⟩ : ∃ pb, pb = W.heap.size := ⟨_, rfl⟩
    rw [← hpb] at H17 HF ⊢
    have HPB := Hid.mk' hpb
    clear hpb
    refine seq_round (by rfl) hL (fun K hK => ?_)
    go_wp2_with fail
    refine (num_spec H17 (by simp) (by omega)).mono ?_
    rintro e w9 ⟨rfl, H18⟩
    rw [List.nil_append] at H18
    clear H17
    go_wp2_with fail
    refine seq_round (by rfl) hL (fun K hK => ?_)
    go_wp2_with fail
    refine (num_spec H18 (by simp [nb_length, wid_1]) (by omega)).mono ?_
    rintro e w9 ⟨rfl, H19⟩
    clear H18
    go_wp2_with fail
    refine seq_round (by rfl) hL (fun K hK => ?_)
    obtain ⟨l2, n2, c2⟩ := Holds.frzFacts (H19) hb2
    go_wp2_with fail
    refine (num_spec H19 (by simp [nb_length, wid_1, wid_2, wid_4]) (by omega)).mono ?_
    rintro e w9 ⟨rfl, H20⟩
    clear H19 l2 n2 c2
    go_wp2_with fail
    refine seq_round (by rfl) hL (fun K hK => ?_)
    obtain ⟨l2, n2, c2⟩ := Holds.frzFacts (H20) hb2
    go_wp2_with fail
    refine (num_spec H20 (by simp [nb_length, wid_1, wid_2, wid_4]) (by omega)).mono ?_
    rintro e w9 ⟨rfl, H21⟩
    clear H20 l2 n2 c2
    go_wp2_with fail
    refine seq_round (by rfl) hL (fun K hK => ?_)
    obtain ⟨l2, n2, c2⟩ := Holds.frzFacts (H21) hb2
    go_wp2_with fail
    refine (num_spec H21 (by simp [nb_length, wid_1, wid_2, wid_4]) (by omega)).mono ?_
    rintro e w9 ⟨rfl, H22⟩
    clear H21 l2 n2 c2
    go_wp2_with fail
    have hlo : x.1 * 48 < N := hi
    obtain ⟨i, hxi⟩ : ∃ i, i = x.1 := ⟨_, rfl⟩
    have hpr : RdB Rb.cell? (pieceV b0 o0 N cs_ i) (pieceL (⟨kind, name, attempt, epoch, mark, size, .slice as_ N cs_, share⟩ : Rc) i) := by
      have h1 : RdB Rb.cell? (.slice as_ share.length cs_) share := by
        rw [← HN.out]; exact Sh.Rd.le HSB.out ((leA.trans le3).trans leb)
      have h2 := RdB.sub h1 (i * 48) (min ((i + 1) * 48) N) cs_ (by omega) (by rw [← HN.out]; omega) (by omega) (Nat.le_refl _)
      have h3 : adr as_ cs_ (i * 48) 1 = some ⟨b0, o0 + i * 48, none⟩ := by
        rw [ha (by omega), adr, if_neg (by omega)]
        simp [Addr.add]
      rw [h3] at h2
      have h4 : (share.drop (i * 48)).take (min ((i + 1) * 48) N - i * 48) = pieceL (⟨kind, name, attempt, epoch, mark, size, .slice as_ N cs_, share⟩ : Rc) i := by
        show _ = (share.drop (i * 48)).take 48
        by_cases h : (i + 1) * 48 ≤ N
        · rw [Nat.min_eq_left h]; congr 1; omega
        · rw [List.take_of_length_le (by rw [List.length_drop, ← HN.out]; omega), List.take_of_length_le (by rw [List.length_drop, ← HN.out]; omega)]
      rw [h4] at h2
      exact h2
    have hpl : (pieceL (⟨kind, name, attempt, epoch, mark, size, .slice as_ N cs_, share⟩ : Rc) i).length ≤ 48 := by
      show ((share.drop (i * 48)).take 48).length ≤ 48
      rw [List.length_take]; omega
    refine seq_round (by rfl) hL (fun K hK => ?_)
    go_wp2_with fail
    simp only [← hxi]
    refine (text_spec H22 (by simp [nb_length, wid_1, wid_4]) (by omega) hpr).mono ?_
    rintro e w9 ⟨rfl, H23⟩
    clear H22
    have eb : nb 1 66 ++ nb 1 ((x.1 : Nat) : Int) ++ nb 1 kind ++ nb 4 attempt ++ nb 4 epoch ++ nb 1 (min (pieceL (⟨kind, name, attempt, epoch, mark, size, .slice as_ N cs_, share⟩ : Rc) i).length 255 : Nat) ++ (pieceL (⟨kind, name, attempt, epoch, mark, size, .slice as_ N cs_, share⟩ : Rc) i).take 255 = bodyR (⟨kind, name, attempt, epoch, mark, size, .slice as_ N cs_, share⟩ : Rc) i := by
      rw [← hxi]
      simp only [bodyR, tx, List.append_assoc]
    rw [eb] at H23
    go_wp2_with fail
    clear eb hpr hpl
    obtain ⟨bd, hbd⟩ : ∃ bd, bd = bodyR (⟨kind, name, attempt, epoch, mark, size, .slice as_ N cs_, share⟩ : Rc) i := ⟨_, rfl⟩
    rw [← hbd] at H23
    have hbl : bd.length ≤ 60 := by
      rw [hbd]
      simp only [bodyR, tx, List.length_append, nb_length, wid_1, wid_4, List.length_take]
      have : (pieceL (⟨kind, name, attempt, epoch, mark, size, .slice as_ N cs_, share⟩ : Rc) i).length ≤ 48 := by
        show ((share.drop (i * 48)).take 48).length ≤ 48
        rw [List.length_take]; omega
      omega
    have HBD := Hid.mk' hbd
    clear hbd
    refine draw_round (by kernel_rfl) (by rfl) hL ?_
    replace H23 := H23.drew
    generalize (World.drew w9) = w23 at H23 ⊢
    have hqn : q.length ≤ 100 := by
      have := congrArg List.length hq
      simp only [List.length_map, List.length_cons] at this
      have h2 : bodiesN N ≤ 50 := by unfold bodiesN; omega
      omega
    have HXI := Hid.mk' hxi
    have leX := leb
    refine wpAny_of_held (S := fun w' => w'.cell? ⟨g1, 0, none⟩ = some (.pointer (some ⟨p, 0, none⟩))) _ _ _ _ ?_
    have hS : w23.cell? ⟨g1, 0, none⟩ = some (.pointer (some ⟨p, 0, none⟩)) := H23.frz hb1 0
    refine wpAnyH_take (i := 1) (v := .pointer (some ⟨p, 0, none⟩)) rfl (by kernel_rfl) (by kernel_rfl) (by kernel_rfl) (fun c a w h => (HPN.out _ _ _ h).elim) (Or.inl ⟨by rfl, ?_⟩) hS ?_
    · intro w hSw
      go_simp
    try simp only [Act.put, List.setIfInBounds_toArray, List.set_cons_zero, List.set_cons_succ]
    clear hS hxi hp48 hi hlo
    refine wpAnyH_ready (rs := [0, 2]) (by kernel_rfl) (by simp) ?_
    refine AllReadyH.cons rfl (fun K hK => ?_) (AllReadyH.cons rfl (fun K hK => ?_) AllReadyH.nil)
    · obtain ⟨l7, n7, c7, z7⟩ := Holds.facts (H23.swap)
      go_simp
      refine hK.out _ _ (Holds.frz H23.swap (hb1) 0) (fun _ => ?_)
      clear l7 n7 c7 z7 hK K
      refine wpAnyH_ready (rs := [2]) (by kernel_rfl) (by simp) ?_
      refine AllReadyH.cons rfl (fun K hK => ?_) AllReadyH.nil
      go_simp
      refine (bytes_spec H23 (by omega)).mono ?_
      rintro e w24 ⟨v24, rfl, H24⟩
      obtain ⟨R24, le24, H25, hr25⟩ := H24.freezeRow
      refine hK.out _ _ (H25.frz (le24.blk _ _ hb1) 0) (fun _ => ?_)
      clear hK K
      refine wpAnyH_ready (rs := [3]) (by kernel_rfl) (by simp) ?_
      refine AllReadyH.cons rfl (fun K hK => ?_) AllReadyH.nil
      go_simp
      refine (sseal_spec H25 (le24.blk _ _ hT2) hr25).mono ?_
      rintro e w26 ⟨o26, rfl, H26⟩
      obtain ⟨ao, co, rfl⟩ := H26.rowRd.form
      rw [sealS_len hbl] at H26 ⊢
      refine hK.out _ _ (H26.frz (le24.blk _ _ hb1) 0) (fun _ => ?_)
      clear hK K
      refine wpAnyH_ready (rs := [4]) (by kernel_rfl) (by simp) ?_
      refine AllReadyH.cons rfl (fun K hK => ?_) AllReadyH.nil
      go_simp
      have H27 := H26.alloc #[.slice ao 64 co] tBytes
      have hr27 : Rd _ 1 _ 1 _ := (H27.toRow 1 1 1 (Nat.le_refl _) (by simp [maxLen]) rfl).rowRd
      refine hK.out _ _ (H27.frz (le24.blk _ _ hb1) 0) (fun _ => ?_)
      clear hK K
      refine wpAnyH_ready (rs := [5]) (by kernel_rfl) (by simp) ?_
      refine AllReadyH.cons rfl (fun K hK => ?_) AllReadyH.nil
      refine step_append rfl _ _ (by rfl) undSecs infoBytes rfl (by decide) (by rfl) (by rfl) H27.drop.pick4 hr27 (by simp [Value.oneCell']) (by simp only [maxLen]; omega) (by omega) ?_
      intro v28 w28 H28
      obtain ⟨a28, c28, rfl⟩ := H28.rowRd.form
      refine hK.out _ _ (H28.frz (le24.blk _ _ hb1) 0) (fun _ => ?_)
      try simp only [Act.put, List.setIfInBounds_toArray, List.set_cons_zero, List.set_cons_succ]
      clear hK K
      obtain ⟨l7, n7, c7, z7⟩ := Holds.facts H28.pick4
      refine wpAnyH_ready (rs := [6]) (by kernel_rfl) (by simp) ?_
      refine AllReadyH.cons rfl (fun K hK => ?_) AllReadyH.nil
      go_simp
      have H29 := H28.pick4.set 0 (.slice a28 (q.length + 1) c28)
      refine hK.out _ _ (H29.frz (le24.blk _ _ hb1) 0) (fun _ => ?_)
      clear hK K
      refine wpAnyH_done (by kernel_rfl) ?_ _
      have hsz : W.heap.size ≤ (w28.setCell ⟨g7, 0, none⟩ (.slice a28 (q.length + 1) c28)).heap.size := by
        obtain ⟨_, _, h⟩ := wr_open H29.pick4
        have := h.blkLt
        rw [← HPB.out]; omega
      exact HF.out _ _ (.slice a28 (q.length + 1) c28, q ++ [(.slice ao 64 co, sealS bd)]) R24 le24 (by rw [HPB.out]; exact hsz) (by rw [List.map_append, hq, HBD.out, HXI.out]; simp) (by
        unfold outA
        simp only [List.map_append, List.length_append, List.length_singleton, List.map_cons, List.map_nil, bytesAll_append, bytesAll_one]
        exact (H29.pick4.drop).ac (by ac_rfl))
    · go_simp
      refine (bytes_spec H23 (by omega)).mono ?_
      rintro e w24 ⟨v24, rfl, H24⟩
      obtain ⟨R24, le24, H25, hr25⟩ := H24.freezeRow
      refine hK.out _ _ (H25.frz (le24.blk _ _ hb1) 0) (fun _ => ?_)
      clear hK K
      refine wpAnyH_ready (rs := [0, 3]) (by kernel_rfl) (by simp) ?_
      refine AllReadyH.cons rfl (fun K hK => ?_) (AllReadyH.cons rfl (fun K hK => ?_) AllReadyH.nil)
      · obtain ⟨l7, n7, c7, z7⟩ := Holds.facts (H25.swap)
        go_simp
        refine hK.out _ _ (Holds.frz H25.swap (le24.blk _ _ hb1) 0) (fun _ => ?_)
        clear l7 n7 c7 z7 hK K
        refine wpAnyH_ready (rs := [3]) (by kernel_rfl) (by simp) ?_
        refine AllReadyH.cons rfl (fun K hK => ?_) AllReadyH.nil
        go_simp
        refine (sseal_spec H25 (le24.blk _ _ hT2) hr25).mono ?_
        rintro e w26 ⟨o26, rfl, H26⟩
        obtain ⟨ao, co, rfl⟩ := H26.rowRd.form
        rw [sealS_len hbl] at H26 ⊢
        refine hK.out _ _ (H26.frz (le24.blk _ _ hb1) 0) (fun _ => ?_)
        clear hK K
        refine wpAnyH_ready (rs := [4]) (by kernel_rfl) (by simp) ?_
        refine AllReadyH.cons rfl (fun K hK => ?_) AllReadyH.nil
        go_simp
        have H27 := H26.alloc #[.slice ao 64 co] tBytes
        have hr27 : Rd _ 1 _ 1 _ := (H27.toRow 1 1 1 (Nat.le_refl _) (by simp [maxLen]) rfl).rowRd
        refine hK.out _ _ (H27.frz (le24.blk _ _ hb1) 0) (fun _ => ?_)
        clear hK K
        refine wpAnyH_ready (rs := [5]) (by kernel_rfl) (by simp) ?_
        refine AllReadyH.cons rfl (fun K hK => ?_) AllReadyH.nil
        refine step_append rfl _ _ (by rfl) undSecs infoBytes rfl (by decide) (by rfl) (by rfl) H27.drop.pick4 hr27 (by simp [Value.oneCell']) (by simp only [maxLen]; omega) (by omega) ?_
        intro v28 w28 H28
        obtain ⟨a28, c28, rfl⟩ := H28.rowRd.form
        refine hK.out _ _ (H28.frz (le24.blk _ _ hb1) 0) (fun _ => ?_)
        try simp only [Act.put, List.setIfInBounds_toArray, List.set_cons_zero, List.set_cons_succ]
        clear hK K
        obtain ⟨l7, n7, c7, z7⟩ := Holds.facts H28.pick4
        refine wpAnyH_ready (rs := [6]) (by kernel_rfl) (by simp) ?_
        refine AllReadyH.cons rfl (fun K hK => ?_) AllReadyH.nil
        go_simp
        have H29 := H28.pick4.set 0 (.slice a28 (q.length + 1) c28)
        refine hK.out _ _ (H29.frz (le24.blk _ _ hb1) 0) (fun _ => ?_)
        clear hK K
        refine wpAnyH_done (by kernel_rfl) ?_ _
        have hsz : W.heap.size ≤ (w28.setCell ⟨g7, 0, none⟩ (.slice a28 (q.length + 1) c28)).heap.size := by
          obtain ⟨_, _, h⟩ := wr_open H29.pick4
          have := h.blkLt
          rw [← HPB.out]; omega
        exact HF.out _ _ (.slice a28 (q.length + 1) c28, q ++ [(.slice ao 64 co, sealS bd)]) R24 le24 (by rw [HPB.out]; exact hsz) (by rw [List.map_append, hq, HBD.out, HXI.out]; simp) (by
          unfold outA
          simp only [List.map_append, List.length_append, List.length_singleton, List.map_cons, List.map_nil, bytesAll_append, bytesAll_one]
          exact (H29.pick4.drop).ac (by ac_rfl))
      · go_simp
        refine (sseal_spec H25 (le24.blk _ _ hT2) hr25).mono ?_
        rintro e w26 ⟨o26, rfl, H26⟩
        obtain ⟨ao, co, rfl⟩ := H26.rowRd.form
        rw [sealS_len hbl] at H26 ⊢
        refine hK.out _ _ (H26.frz (le24.blk _ _ hb1) 0) (fun _ => ?_)
        clear hK K
        refine wpAnyH_ready (rs := [0, 4]) (by kernel_rfl) (by simp) ?_
        refine AllReadyH.cons rfl (fun K hK => ?_) (AllReadyH.cons rfl (fun K hK => ?_) AllReadyH.nil)
        · obtain ⟨l7, n7, c7, z7⟩ := Holds.facts (H26.pick3)
          go_simp
          refine hK.out _ _ (Holds.frz H26.pick3 (le24.blk _ _ hb1) 0) (fun _ => ?_)
          clear l7 n7 c7 z7 hK K
          refine wpAnyH_ready (rs := [4]) (by kernel_rfl) (by simp) ?_
          refine AllReadyH.cons rfl (fun K hK => ?_) AllReadyH.nil
          go_simp
          have H27 := H26.alloc #[.slice ao 64 co] tBytes
          have hr27 : Rd _ 1 _ 1 _ := (H27.toRow 1 1 1 (Nat.le_refl _) (by simp [maxLen]) rfl).rowRd
          refine hK.out _ _ (H27.frz (le24.blk _ _ hb1) 0) (fun _ => ?_)
          clear hK K
          refine wpAnyH_ready (rs := [5]) (by kernel_rfl) (by simp) ?_
          refine AllReadyH.cons rfl (fun K hK => ?_) AllReadyH.nil
          refine step_append rfl _ _ (by rfl) undSecs infoBytes rfl (by decide) (by rfl) (by rfl) H27.drop.pick4 hr27 (by simp [Value.oneCell']) (by simp only [maxLen]; omega) (by omega) ?_
          intro v28 w28 H28
          obtain ⟨a28, c28, rfl⟩ := H28.rowRd.form
          refine hK.out _ _ (H28.frz (le24.blk _ _ hb1) 0) (fun _ => ?_)
          try simp only [Act.put, List.setIfInBounds_toArray, List.set_cons_zero, List.set_cons_succ]
          clear hK K
          obtain ⟨l7, n7, c7, z7⟩ := Holds.facts H28.pick4
          refine wpAnyH_ready (rs := [6]) (by kernel_rfl) (by simp) ?_
          refine AllReadyH.cons rfl (fun K hK => ?_) AllReadyH.nil
          go_simp
          have H29 := H28.pick4.set 0 (.slice a28 (q.length + 1) c28)
          refine hK.out _ _ (H29.frz (le24.blk _ _ hb1) 0) (fun _ => ?_)
          clear hK K
          refine wpAnyH_done (by kernel_rfl) ?_ _
          have hsz : W.heap.size ≤ (w28.setCell ⟨g7, 0, none⟩ (.slice a28 (q.length + 1) c28)).heap.size := by
            obtain ⟨_, _, h⟩ := wr_open H29.pick4
            have := h.blkLt
            rw [← HPB.out]; omega
          exact HF.out _ _ (.slice a28 (q.length + 1) c28, q ++ [(.slice ao 64 co, sealS bd)]) R24 le24 (by rw [HPB.out]; exact hsz) (by rw [List.map_append, hq, HBD.out, HXI.out]; simp) (by
            unfold outA
            simp only [List.map_append, List.length_append, List.length_singleton, List.map_cons, List.map_nil, bytesAll_append, bytesAll_one]
            exact (H29.pick4.drop).ac (by ac_rfl))
        · go_simp
          have H27 := H26.alloc #[.slice ao 64 co] tBytes
          have hr27 : Rd _ 1 _ 1 _ := (H27.toRow 1 1 1 (Nat.le_refl _) (by simp [maxLen]) rfl).rowRd
          refine hK.out _ _ (H27.frz (le24.blk _ _ hb1) 0) (fun _ => ?_)
          clear hK K
          refine wpAnyH_ready (rs := [0]) (by kernel_rfl) (by simp) ?_
          refine AllReadyH.cons rfl (fun K hK => ?_) AllReadyH.nil
          obtain ⟨l7, n7, c7, z7⟩ := Holds.facts (H27.pick4)
          go_simp
          refine hK.out _ _ (Holds.frz H27.pick4 (le24.blk _ _ hb1) 0) (fun _ => ?_)
          clear l7 n7 c7 z7 hK K
          refine wpAnyH_ready (rs := [5]) (by kernel_rfl) (by simp) ?_
          refine AllReadyH.cons rfl (fun K hK => ?_) AllReadyH.nil
          refine step_append rfl _ _ (by rfl) undSecs infoBytes rfl (by decide) (by rfl) (by rfl) H27.drop.pick4 hr27 (by simp [Value.oneCell']) (by simp only [maxLen]; omega) (by omega) ?_
          intro v28 w28 H28
          obtain ⟨a28, c28, rfl⟩ := H28.rowRd.form
          refine hK.out _ _ (H28.frz (le24.blk _ _ hb1) 0) (fun _ => ?_)
          try simp only [Act.put, List.setIfInBounds_toArray, List.set_cons_zero, List.set_cons_succ]
          clear hK K
          obtain ⟨l7, n7, c7, z7⟩ := Holds.facts H28.pick4
          refine wpAnyH_ready (rs := [6]) (by kernel_rfl) (by simp) ?_
          refine AllReadyH.cons rfl (fun K hK => ?_) AllReadyH.nil
          go_simp
          have H29 := H28.pick4.set 0 (.slice a28 (q.length + 1) c28)
          refine hK.out _ _ (H29.frz (le24.blk _ _ hb1) 0) (fun _ => ?_)
          clear hK K
          refine wpAnyH_done (by kernel_rfl) ?_ _
          have hsz : W.heap.size ≤ (w28.setCell ⟨g7, 0, none⟩ (.slice a28 (q.length + 1) c28)).heap.size := by
            obtain ⟨_, _, h⟩ := wr_open H29.pick4
            have := h.blkLt
            rw [← HPB.out]; omega
          exact HF.out _ _ (.slice a28 (q.length + 1) c28, q ++ [(.slice ao 64 co, sealS bd)]) R24 le24 (by rw [HPB.out]; exact hsz) (by rw [List.map_append, hq, HBD.out, HXI.out]; simp) (by
            unfold outA
            simp only [List.map_append, List.length_append, List.length_singleton, List.map_cons, List.map_nil, bytesAll_append, bytesAll_one]
            exact (H29.pick4.drop).ac (by ac_rfl))
  case done =>
    rintro D xs ⟨v, q⟩ W rfl hq H16 hput hD
    unfold outA at H16
    simp only at H16
    obtain ⟨l7, n7, c7, z7⟩ := Holds.facts (H16)
    go_wp2_with fail
    rw [HQ0.out]
    refine ⟨by simp, .inl ⟨_, _, rfl, run_takeDeferred hD, ?_⟩⟩
    refine ⟨_, results_tmp2 rfl _ _ _, v, q, rfl, ?_, ?_⟩
    · rw [hq, HHD.out]
      show _ = sealS _ :: (List.range (bodiesN share.length)).map _
      rw [← HN.out]
      congr 1
      apply List.ext_getElem
      · simp
      · intro i h1 h2
        simp
    · have h := (hput (.deferred none)).weaken (leA.trans le3)
      unfold outA at h
      exact h.drop
end Sh
/- The reference's names: sherdref07.Put, Get. -/
set_option linter.unusedVariables false
set_option linter.unusedSimpArgs false
namespace Sh
open Go Go.RowKit Go.Proofs
attribute [local go_sem ↓] Go.wp_at_zero Go.wp_at_succ
set_option maxHeartbeats 1000000
set_option maxRecDepth 100000

def nameS (s : ByteArray) (j : Nat) : List UInt8 := nb 1 (s.size : Int) ++ ((strB s).take j ++ List.replicate (16 - j) 0)
theorem nameS_end (s : ByteArray) : nameS s s.size = nameB s := by
  rw [nameS, nameB, List.take_of_length_le (by rw [strB_sz]; omega)]; rfl
theorem nameS_start (s : ByteArray) : nameS s 0 = nb 1 (s.size : Int) ++ List.replicate 16 0 := by simp [nameS]
theorem nameS_next (s : ByteArray) (j : Nat) (h : j < s.size) (h16 : s.size ≤ 16) : (nameS s j).set (1 + j) s[j] = nameS s (j + 1) := by
  have hl : (nb 1 (s.size : Int)).length = 1 := by rw [nb_length, wid_1]
  have hj : j < (strB s).length := by rw [strB_sz]; exact h
  have ht : ((strB s).take j).length = j := by rw [List.length_take]; omega
  rw [nameS, nameS, List.set_append_right _ _ (by omega), hl, List.set_append_right _ _ (by rw [ht]; omega), ht]
  have e1 : 1 + j - 1 - j = 0 := by omega
  have e2 : 16 - j = (16 - (j + 1)) + 1 := by omega
  rw [e1, e2, List.replicate_succ, List.set_cons_zero, List.take_succ_eq_append_getElem hj, List.append_assoc]
  have e3 : (strB s)[j] = s[j] := by simp only [strB]; rfl
  rw [e3]; rfl
theorem lrput_spec {w : World} {R : Snap} {L : Asrt} {s : ByteArray} (H : Holds w R L) (hok : nameOk s = true) :
    Calls Try.prog 160 #[.string s] w fun e w' => ∃ o, e = .returned o ∧ Holds w' R (star (rowB o (nameB s)) L) := by
  have hs := nameOk_le hok
  have hmx : s.size ≤ maxLen := by simp only [maxLen]; omega
  have hR := rright_spec hmx
  have HOK := Hid.mk' hok
  have HS := Hid.mk' hs
  clear hok
  go_enter Try.func160, Try.ntmps160
  go_wp2_with (with_reducible refine stop_make ?_)
  refine Hold.go (wpList_makeB (n := 17) rfl _ _ rfl rfl rfl H (by decide) ?_)
  intro v1 w1 H1
  obtain ⟨g, cap, rfl, hcap, hg, _, hf⟩ := H1.rowAt (by decide)
  clear hf hg
  replace H1 : Holds w1 R (star (row tU8 1 (.slice (some ⟨g, 0, none⟩) 17 cap) 17 (u8s (List.replicate 17 0))) L) := H1
  go_wp2_with fail
  refine (hR _).mono ?_
  rintro e w2 ⟨rfl, rfl⟩
  rw [HOK.out]
  obtain ⟨_, _, e0, _, g0, h0, f0⟩ := Holds.rowAt (n := 17) H1 (by decide)
  simp only [Value.slice.injEq, Option.some.injEq, Addr.mk.injEq, and_true, true_and] at e0
  obtain ⟨rfl, rfl⟩ := e0
  have c0 := h0 0 _ rfl
  clear h0
  go_upto_region 4 with fail
  have H2 := row_write H1 0 (s.size : Int) (by decide) (by omega)
  generalize (World.setCell ..) = w3 at H2 ⊢
  have e : (List.replicate 17 (0 : UInt8)).set 0 (UInt8.ofNat (s.size : Int).toNat) = nameS s 0 := by
    rw [nameS_start, nb_byte (by omega)]; rfl
  rw [e] at H2
  clear e H1 g0 c0 f0
  go_wp2_with fail
  go_loopw [4] (fun i wx => ∃ j : Nat, i = .int .i64 j ∧ j ≤ s.size ∧ Holds wx R (star (row tU8 1 (.slice (some ⟨g, 0, none⟩) 17 cap) 17 (u8s (nameS s j))) L)) (fun i _ => s.size - (intOf i).toNat)
  case atStart => exact ⟨0, rfl, Nat.zero_le _, H2⟩
  case round =>
    clear H2
    obtain ⟨j, rfl, hj, H3⟩ := hrel
    have HX := Hid.mk' (nameS_next s j)
    by_cases hlt : j < s.size
    · have d1 : decide ((j : Int) < (s.size : Int)) = true := by simp; omega
      have hx := u8_lt s[j]
      obtain ⟨_, _, e0, _, g0, h0, f0⟩ := Holds.rowAt (n := 17) H3 (by decide)
      simp only [Value.slice.injEq, Option.some.injEq, Addr.mk.injEq, and_true, true_and] at e0
      obtain ⟨rfl, rfl⟩ := e0
      have hln : (nameS s j).length = 17 := by
        rw [nameS, List.length_append, List.length_append, nb_length, wid_1, List.length_take, List.length_replicate, strB_sz]; omega
      obtain ⟨u0, c0⟩ : ∃ u, wr.cell? ⟨g, 1 + j, none⟩ = some u := ⟨_, h0 (1 + j) _ (u8s_get _ _ (by rw [hln]; omega))⟩
      clear h0 hln
      have i1 : (0 : Int) ≤ 1 + (j : Int) := by omega
      have i2 : 1 + (j : Int) < 17 := by omega
      have i3 : (1 + (j : Int)).toNat = 1 + j := by omega
      go_upto_region 6 with fail
      have H4 := row_write H3 (1 + j) (s[j].toNat : Int) (by omega) (by omega)
      have e : (nameS s j).set (1 + j) (UInt8.ofNat ((s[j].toNat : Nat) : Int).toNat) = nameS s (j + 1) := by
        rw [← HX.out hlt HS.out]; congr 1; simp
      rw [e] at H4
      clear H3 g0 c0 f0 e
      go_wp2_with fail
      go_roundw
      case rel => exact ⟨j + 1, by go_num, hlt, H4⟩
      case measure => simp [intOf]; omega
    · have d1 : decide ((j : Int) < (s.size : Int)) = false := by simp; omega
      obtain rfl : j = s.size := by omega
      go_wp2_with fail
      go_ret
      rw [nameS_end] at H3
      refine ⟨_, rfl, ?_⟩
      have hl : (nameB s).length = 17 := by rw [← nameS_end, nameS, List.length_append, List.length_append, nb_length, wid_1, List.length_take, List.length_replicate, strB_sz]; omega
      show Holds wr R (star (row tU8 1 (.slice (some ⟨g, 0, none⟩) 17 cap) (nameB s).length (u8s (nameB s))) L)
      rw [hl]; exact H3
end Sh
/- msg: what Get reads by: numbers, texts, many of them. -/
set_option linter.unusedVariables false
set_option linter.unusedSimpArgs false
namespace Sh
open Go Go.RowKit Go.Proofs
attribute [local go_sem ↓] Go.wp_at_zero Go.wp_at_succ
set_option maxHeartbeats 1000000
set_option maxRecDepth 100000

abbrev rdrT : TypeId := 211
theorem rd_num {w : World} {R : Snap} {L : Asrt} {p : Nat} {v : Value} {s : PSt} {k : Nat} (hk : wid k = k) (H : Holds w R (star (blk p #[v, .bool s.2] rdrT) L)) (hr : RdB R.cell? v s.1) :
    Calls Try.prog 127 #[.pointer (some ⟨p, 0, none⟩), .int .i64 (k : Int)] w fun e w' => ∃ v', e = .returned (.int .i64 ((pNum k s).1 : Nat)) ∧ Holds w' R (star (blk p #[v', .bool (pNum k s).2.2] rdrT) L) ∧ RdB R.cell? v' (pNum k s).2.1 := by
  have h := rnum_spec (k := (k : Int)) H hr
  rw [hk] at h
  exact h
theorem rd_text {w : World} {R : Snap} {L : Asrt} {p : Nat} {v : Value} {s : PSt} (H : Holds w R (star (blk p #[v, .bool s.2] rdrT) L)) (hr : RdB R.cell? v s.1) (hl : s.1.length ≤ 1000000) :
    Calls Try.prog 129 #[.pointer (some ⟨p, 0, none⟩)] w fun e w' => ∃ o v', e = .returned o ∧ Holds w' R (star (rowB o (pText s).1) (star (blk p #[v', .bool (pText s).2.2] rdrT) L)) ∧ RdB R.cell? v' (pText s).2.1 := rtext_spec H hr hl
theorem cutRest_le (l : List UInt8) (b : Bool) (n : Nat) : (cutRest l b n).length ≤ l.length := by
  unfold cutRest; split
  · rw [List.length_drop]; omega
  · simp
theorem pNum_le (k : Nat) (s : PSt) : (pNum k s).2.1.length ≤ s.1.length := cutRest_le _ _ _
theorem pText_le (s : PSt) : (pText s).2.1.length ≤ s.1.length := Nat.le_trans (cutRest_le _ _ _) (pNum_le 1 s)
theorem pNum1_lt (s : PSt) : (pNum 1 s).1 < 256 := by
  show valB (cutOut s.1 s.2 1) < 256
  have h := valB_lt (cutOut s.1 s.2 1)
  have h2 : (cutOut s.1 s.2 1).length ≤ 1 := by
    unfold cutOut; split
    · rw [List.length_take]; omega
    · simp
  have h3 : 256 ^ (cutOut s.1 s.2 1).length ≤ 256 ^ 1 := Nat.pow_le_pow_right (by omega) h2
  omega
theorem get2_spec {w : World} {R : Snap} {L : Asrt} {p g : Nat} {v : Value} {s : PSt} {t : TypeId} {fr : Nat × Nat} (hg : R.blk g = some (.cells #[.func (.func 127) #[.pointer (some ⟨p, 0, none⟩)] #[]] t fr)) (H : Holds w R (star (blk p #[v, .bool s.2] rdrT) L)) (hr : RdB R.cell? v s.1) :
    Calls Try.prog 131 #[.pointer (some ⟨g, 0, none⟩)] w fun e w' => ∃ v', e = .returned (.int .i64 ((pNum 4 s).1 : Nat)) ∧ Holds w' R (star (blk p #[v', .bool (pNum 4 s).2.2] rdrT) L) ∧ RdB R.cell? v' (pNum 4 s).2.1 := by
  obtain ⟨l1, n1, c1⟩ := Holds.frzFacts (H) hg
  go_enter Try.func131, Try.ntmps131
  go_wp2_with fail
  refine (rd_num (k := 4) (by decide) H hr).mono ?_
  rintro e w2 ⟨v2, rfl, H2, hr2⟩
  go_wp2_with fail
  go_ret
  exact ⟨v2, rfl, H2, hr2⟩
theorem pMany_more {α : Type} {f : PSt → α × PSt} {m : Nat} {s : PSt} (h : s.2 = false) : pMany f (m + 1) s = ((f s).1 :: (pMany f m (f s).2).1, (pMany f m (f s).2).2) := by
  rw [pMany, if_neg (by simp [h])]
theorem pMany_bad {α : Type} {f : PSt → α × PSt} {m : Nat} {s : PSt} (h : s.2 = true) : pMany f m s = ([], s) := by
  cases m with
  | zero => rfl
  | succ m => rw [pMany, if_pos h]
theorem manyInts_spec {w : World} {R : Snap} {L : Asrt} {p g : Nat} {v : Value} {s : PSt} {t : TypeId} {fr : Nat × Nat} (hg : R.blk g = some (.cells #[.func (.func 127) #[.pointer (some ⟨p, 0, none⟩)] #[]] t fr)) (H : Holds w R (star (blk p #[v, .bool s.2] rdrT) L)) (hr : RdB R.cell? v s.1) :
    Calls Try.prog 130 #[.pointer (some ⟨p, 0, none⟩), .func (.func 131) #[] #[.pointer (some ⟨g, 0, none⟩)]] w fun e w' => ∃ o v', e = .returned o ∧ Holds w' R (star (row tInt 1 o (pMany (pNum 4) (pNum 1 s).1 (pNum 1 s).2).1.length ((toInts (pMany (pNum 4) (pNum 1 s).1 (pNum 1 s).2).1).map (Value.int .i64))) (star (blk p #[v', .bool (pMany (pNum 4) (pNum 1 s).1 (pNum 1 s).2).2.2] rdrT) L)) ∧ RdB R.cell? v' (pMany (pNum 4) (pNum 1 s).1 (pNum 1 s).2).2.1 := by
  obtain ⟨q, hq⟩ : ∃ q, q = pMany (pNum 4) (pNum 1 s).1 (pNum 1 s).2 := ⟨_, rfl⟩
  rw [← hq]
  go_enter Try.func130, Try.ntmps130
  go_wp2_with fail
  refine (rd_num (k := 1) (by decide) H hr).mono ?_
  rintro e w2 ⟨v2, rfl, H2, hr2⟩
  have hlt := pNum1_lt s
  clear H hr
  generalize (pNum 1 s).1 = n at *
  generalize (pNum 1 s).2 = s1 at *
  have HQ := Hid.mk' hq
  have HG := Hid.mk' hg
  clear hq hg
  go_wp2_with fail
  go_loopw [5, 6] (fun o i wx => ∃ (m : Nat) (X : List Nat) (s2 : PSt) (v2 : Value), i = .int .i64 m ∧ X.length + m ≤ 255 ∧ Hid (q = (X ++ (pMany (pNum 4) m s2).1, (pMany (pNum 4) m s2).2)) ∧ Hid (RdB R.cell? v2 s2.1) ∧ Holds wx R (star (row tInt 1 o X.length ((toInts X).map (Value.int .i64))) (star (blk p #[v2, .bool s2.2] rdrT) L))) (fun _ i _ => (intOf i).toNat)
  case atStart => exact ⟨n, [], s1, v2, rfl, by simp only [List.length_nil]; omega, Hid.mk' (by rw [HQ.out]; rfl), Hid.mk' hr2, H2.nilRow _ 1⟩
  case round =>
    clear H2 hr2
    obtain ⟨m, X, s2, v3, rfl, hX, hQ, hR, H3⟩ := hrel
    have H3s := H3.swap
    cases m with
    | zero =>
      have i1 : ¬ ((0 : Nat) : Int) > 0 := by omega
      go_wp2_with fail
      go_ret
      have h := hQ.out
      rw [pMany, List.append_nil] at h
      rw [h]
      exact ⟨_, rfl, v3, H3, hR.out⟩
    | succ m =>
      have i1 : (((m + 1 : Nat) : Int) > 0) := by omega
      have d1 : decide (((m + 1 : Nat) : Int) > 0) = true := decide_eq_true i1
      have d2 : decide ((0 : Int) < ((m + 1 : Nat) : Int)) = true := decide_eq_true i1
      cases hb : s2.2 with
      | true =>
        rw [hb] at H3 H3s
        go_wp2_with fail
        refine (rgood_spec H3s).mono ?_
        rintro e w4 ⟨rfl, rfl⟩
        go_wp2_with fail
        go_ret
        have h := hQ.out
        rw [pMany_bad hb, List.append_nil] at h
        rw [h, hb]
        exact ⟨_, v3, rfl, H3, hR.out⟩
      | false =>
        rw [hb] at H3 H3s
        go_wp2_with fail
        refine (rgood_spec H3s).mono ?_
        rintro e w4 ⟨rfl, rfl⟩
        go_wp2_with fail
        refine (get2_spec (s := s2) HG.out (by rw [hb]; exact H3s) hR.out).mono ?_
        rintro e w5 ⟨v5, rfl, H5, hr5⟩
        have H6 := H5.alloc #[.int .i64 ((pNum 4 s2).1 : Nat)] tInt
        have hr6 : RdI _ _ [((pNum 4 s2).1 : Int)] := (H6.toRow 1 1 1 (Nat.le_refl _) (by simp [maxLen]) rfl).rowRd
        clear H3 H3s
        go_wp2_with (with_reducible refine stop_append ?_)
        refine Hold.go (wpList_append rfl _ _ rfl undInts infoInt rfl (by decide) rfl rfl H6.drop.swap hr6 (ints_one _) (by simp only [maxLen, List.length_singleton]; omega) (by simp only [List.length_singleton]; omega) ?_)
        intro v8 w8 H8
        have hw : IntKind.i64.wrap (((m + 1 : Nat) : Int) - 1) = (m : Int) := by
          rw [show (((m + 1 : Nat) : Int) - 1) = (m : Int) by omega]; exact IntWalk.i64_in _ (by omega)
        go_wp2_with fail
        go_roundw
        case rel =>
          refine ⟨m, X ++ [(pNum 4 s2).1], (pNum 4 s2).2, v5, by go_num, by rw [List.length_append, List.length_singleton]; omega, Hid.mk' ?_, Hid.mk' hr5, ?_⟩
          · rw [hQ.out, pMany_more hb]; simp
          · rw [List.length_append, List.length_singleton, toInts, List.map_append]
            simpa [toInts] using H8
        case measure => simp [intOf]
end Sh
/- label.Get. -/
set_option linter.unusedVariables false
set_option linter.unusedSimpArgs false
namespace Sh
open Go Go.RowKit Go.Proofs
attribute [local go_sem ↓] Go.wp_at_zero Go.wp_at_succ
set_option maxHeartbeats 1000000
set_option maxRecDepth 100000

theorem get1z_spec (c : Nat) (h : c ≤ 255) (w : World) : Calls Try.prog 199 #[.int .u8 c] w fun e w' => e = .returned (.bool (decide (c ≠ 0))) ∧ w = w' := by
  by_cases h0 : c = 0
  · subst h0
    go_enter Try.func199, Try.ntmps199
    go_wp2_with fail
    go_ret
    exact ⟨rfl, rfl⟩
  · have t0 : ((c : Int) != 0) = true := by simp; omega
    go_enter Try.func199, Try.ntmps199
    go_wp2_with fail
    go_ret
    exact ⟨ret_bool (by simp [h0]), rfl⟩
theorem indexFunc_spec {w : World} {v : Value} {l : List UInt8} (hr : RdB w.cell? v l) :
    Calls Try.prog 200 #[v, .func (.func 199) #[] #[]] w fun e w' => (∃ k : Int, e = .returned (.int .i64 k) ∧ -1 ≤ k ∧ k ≤ 9223372036854775807 ∧ (l.all (fun c => decide (c = 0)) = true → k < 0)) ∧ w = w' := by
  have hmx := hr.max
  unfold maxLen at hmx
  obtain ⟨a, c, rfl⟩ := hr.form
  obtain ⟨n, hn⟩ : ∃ n, n = l.length := ⟨_, rfl⟩
  rw [← hn] at hmx ⊢
  have HN := Hid.mk' hn
  have HR := Hid.mk' hr
  clear hn hr
  go_enter Try.func200, Try.ntmps200
  go_wp2_with fail
  go_loop [8] (fun i => ∃ j : Nat, i = .int .i64 j ∧ j ≤ n ∧ Hid (∀ k (h : k < l.length), k < j → l[k] = 0)) (fun i => n - (intOf i).toNat)
  case atStart => exact ⟨0, rfl, Nat.zero_le _, Hid.mk' (fun k _ h => absurd h (Nat.not_lt_zero k))⟩
  case round =>
    obtain ⟨j, rfl, hj, hA⟩ := hrel
    by_cases hlt : j < n
    · have d1 : decide ((j : Int) < (n : Int)) = true := by simp; omega
      have hjl : j < l.length := by rw [← HN.out]; exact hlt
      obtain ⟨b1, o1, ha, hc⟩ := RdB.open HR.out (by omega)
      subst ha
      have hcj := hc j hjl
      obtain ⟨y, hy⟩ : ∃ y, y = l[j] := ⟨_, rfl⟩
      rw [← hy] at hcj
      have HY := Hid.mk' hy
      have hx := u8_lt y
      obtain ⟨z, hz⟩ : ∃ z, z = y.toNat := ⟨_, rfl⟩
      rw [← hz] at hcj hx
      have HZ := Hid.mk' hz
      have i1 : (0 : Int) ≤ (j : Int) := by omega
      have i2 : (j : Int) < (n : Int) := by omega
      clear hc hy hz
      go_wp2_with fail
      refine (get1z_spec z (by omega) _).mono ?_
      rintro e w4 ⟨rfl, rfl⟩
      by_cases h0 : z = 0
      · rw [decide_eq_false (by simpa using h0)]
        go_wp2_with fail
        go_round
        case rel =>
          refine ⟨j + 1, by go_num, hlt, Hid.mk' (fun k h1 h2 => ?_)⟩
          rcases Nat.lt_or_ge k j with h3 | h3
          · exact hA.out k h1 h3
          · obtain rfl : k = j := by omega
            rw [← HY.out]
            apply UInt8.toNat_inj.1
            rw [← HZ.out, h0]; rfl
        case measure => simp [intOf]; omega
      · rw [decide_eq_true (by simpa using h0)]
        have H0 := Hid.mk' h0
        clear h0
        go_wp2_with fail
        go_ret
        refine ⟨⟨_, rfl, by omega, by omega, fun h => ?_⟩, rfl⟩
        have h2 := List.all_eq_true.1 h _ (List.getElem_mem hjl)
        rw [decide_eq_true_eq, ← HY.out] at h2
        exact absurd (by rw [HZ.out, h2]; rfl) H0.out
    · have d1 : decide ((j : Int) < (n : Int)) = false := by simp; omega
      go_wp2_with fail
      go_ret
      exact ⟨⟨_, rfl, by omega, by omega, fun _ => by omega⟩, rfl⟩
theorem contains_spec {w : World} {v : Value} {l : List UInt8} (hr : RdB w.cell? v l) :
    Calls Try.prog 198 #[v, .func (.func 199) #[] #[]] w fun e w' => (∃ b : Bool, e = .returned (.bool b) ∧ (l.all (fun c => decide (c = 0)) = true → b = false)) ∧ w = w' := by
  have hI := indexFunc_spec hr
  obtain ⟨a, c, rfl⟩ := hr.form
  go_enter Try.func198, Try.ntmps198
  go_wp2_with fail
  refine hI.mono ?_
  rintro e w1 ⟨⟨k, rfl, h1, h2, h3⟩, rfl⟩
  have H3 := Hid.mk' h3
  clear h3 hr hI
  by_cases hk : 0 ≤ k
  · have t : decide (0 ≤ k) = true := by simpa using hk
    go_wp2_with fail
    go_ret
    exact ⟨⟨true, rfl, fun h => by have := H3.out h; omega⟩, rfl⟩
  · have t : decide (0 ≤ k) = false := by simpa using hk
    go_wp2_with fail
    go_ret
    exact ⟨⟨false, rfl, fun _ => rfl⟩, rfl⟩
theorem rd_raw {w : World} {R : Snap} {L : Asrt} {p : Nat} {v : Value} {s : PSt} {k : Nat} (H : Holds w R (star (blk p #[v, .bool s.2] rdrT) L)) (hr : RdB R.cell? v s.1) (hl : s.1.length ≤ 1000000) :
    Calls Try.prog 188 #[.pointer (some ⟨p, 0, none⟩), .int .i64 (k : Int)] w fun e w' => ∃ o v', e = .returned o ∧ Holds w' R (star (rowB o (pRaw k s).1) (star (blk p #[v', .bool (pRaw k s).2.2] rdrT) L)) ∧ RdB R.cell? v' (pRaw k s).2.1 := by
  have h := rraw_spec (n := (k : Int)) H hr hl
  rw [Int.toNat_natCast] at h
  exact h
theorem name_parse {s : PSt} {name : ByteArray} {r : List UInt8} (hok : nameOk name = true) (h : s = (nameB name ++ r, false)) : (pNum 1 s).1 = name.size ∧ pRaw 16 (pNum 1 s).2 = (strB name ++ List.replicate (16 - name.size) 0, (r, false)) := by
  have hs := nameOk_le hok
  have h1 : pNum 1 s = (name.size, (strB name ++ List.replicate (16 - name.size) 0 ++ r, false)) := by
    rw [h, nameB, List.append_assoc]
    have := pNum_nb (k := 1) (by decide) (n := (name.size : Int)) (by omega) (by show (name.size : Int) < 256; omega) (strB name ++ List.replicate (16 - name.size) 0 ++ r)
    simpa [strB] using this
  rw [h1]
  refine ⟨rfl, ?_⟩
  have hl : (strB name ++ List.replicate (16 - name.size) (0 : UInt8)).length = 16 := by rw [List.length_append, strB_sz, List.length_replicate]; omega
  have h2 := pRaw_app (l := strB name ++ List.replicate (16 - name.size) (0 : UInt8)) r
  rw [hl] at h2
  exact h2
theorem lget_spec {w : World} {R : Snap} {L : Asrt} {p : Nat} {v : Value} {s : PSt} (H : Holds w R (star (blk p #[v, .bool s.2] rdrT) L)) (hr : RdB R.cell? v s.1) (hl : s.1.length ≤ 1000000) :
    Calls Try.prog 194 #[.pointer (some ⟨p, 0, none⟩)] w fun e w' => ∃ (nm : ByteArray) (ob v' : Value), e = .returned (.tuple #[.string nm, ob]) ∧ Holds w' R (star (blk p #[v', .bool (pRaw 16 (pNum 1 s).2).2.2] rdrT) L) ∧ RdB R.cell? v' (pRaw 16 (pNum 1 s).2).2.1 ∧ nm.size ≤ 16 ∧ (∀ name r, nameOk name = true → s = (nameB name ++ r, false) → nm = name) := by
  have hcomp : ∀ name r, nameOk name = true → s = (nameB name ++ r, false) → (pNum 1 s).1 = name.size ∧ (pRaw 16 (pNum 1 s).2).1 = strB name ++ List.replicate (16 - name.size) 0 ∧ (pRaw 16 (pNum 1 s).2).2.2 = false := fun name r h1 h2 => by
    obtain ⟨h3, h4⟩ := name_parse h1 h2
    exact ⟨h3, by rw [h4], by rw [h4]⟩
  have hlt := pNum1_lt s
  have hl2 := Nat.le_trans (pNum_le 1 s) hl
  have h16 : (pRaw 16 (pNum 1 s).2).2.2 = false → (pRaw 16 (pNum 1 s).2).1.length = 16 := fun h => (pRaw_ok h).2.2
  obtain ⟨q, hq⟩ : ∃ q, q = pRaw 16 (pNum 1 s).2 := ⟨_, rfl⟩
  rw [← hq]
  go_enter Try.func194, Try.ntmps194
  go_wp2_with fail
  refine (rd_num (k := 1) (by decide) H hr).mono ?_
  rintro e w2 ⟨v2, rfl, H2, hr2⟩
  clear H hr
  go_wp2_with fail
  refine (rd_raw (k := 16) H2 hr2 hl2).mono ?_
  rintro e w3 ⟨o, v3, rfl, H3, hr3⟩
  clear H2 hr2 hl2 hl
  obtain ⟨n, hn⟩ : ∃ n, n = (pNum 1 s).1 := ⟨_, rfl⟩
  rw [← hn, ← hq] at hcomp
  rw [← hn] at hlt ⊢
  rw [← hq] at h16 H3 hr3
  have HCP := Hid.mk' hcomp
  have HR3 := Hid.mk' hr3
  clear hn hq hcomp hr3
  obtain ⟨out, rest, bad⟩ := q
  simp only at h16 H3 HR3 HCP ⊢
  obtain ⟨m, hm⟩ : ∃ m, m = out.length := ⟨_, rfl⟩
  have hrow := H3.rowRd
  obtain ⟨ao, co, rfl⟩ := hrow.form
  go_wp2_with fail
  refine (rgood_spec H3.swap).mono ?_
  rintro e w4 ⟨rfl, rfl⟩
  cases bad with
  | true =>
    clear h16
    go_wp2_with fail
    refine bodyPost_ret (results_tmp2 rfl _ _ _) rfl ?_
    exact ⟨_, ⟨_, rfl⟩, _, H3.drop, HR3.out, by decide, fun name r h1 h2 => by have := (HCP.out name r h1 h2).2.2; cases this⟩
  | false =>
    have h16 := h16 rfl
    have hB := hrow.bounds
    have H4 := H3.at_len h16
    have hcv := fun (k : Nat) (hk : k ≤ 16) => convStr (RdB.pre hrow k (by omega))
    have hsub := fun (k : Nat) (hk : k ≤ 16) => RdB.sub hrow k 16 co hk (by omega) (by omega) (Nat.le_refl _)
    have hco : 16 ≤ co := by omega
    have HOL := Hid.mk' h16
    simp only [h16]
    clear h16 hrow hB H3 hm
    by_cases hn16 : n ≤ 16
    · have t0 : decide ((16 : Int) < (n : Int)) = false := by simp; omega
      have hcv := hcv n hn16
      have hsub := hsub n hn16
      have i1 : (0 : Int) ≤ (n : Int) := by omega
      have i2 : (n : Int) ≤ (co : Int) := by omega
      have i3 : (n : Int) ≤ 16 := by omega
      go_wp2_with fail
      refine (contains_spec hsub).mono ?_
      rintro e w4 ⟨⟨b, rfl, hb⟩, rfl⟩
      have HB := Hid.mk' hb
      obtain ⟨nm, hnm⟩ : ∃ nm : ByteArray, nm = ⟨(out.take n).toArray⟩ := ⟨_, rfl⟩
      have hns : nm.size ≤ 16 := by
        rw [hnm]
        show (out.take n).toArray.size ≤ 16
        rw [List.size_toArray, List.length_take]; omega
      simp only [← hnm]
      have HNM := Hid.mk' hnm
      have hRR := right_spec (s := nm) (by simp only [maxLen]; omega)
      clear hcv hsub hb hnm
      cases b with
      | true =>
        go_wp2_with fail
        refine bodyPost_ret (results_tmp2 rfl _ _ _) rfl ?_
        refine ⟨_, ⟨_, rfl⟩, _, H4.drop, HR3.out, by decide, fun name r h1 h2 => ?_⟩
        obtain ⟨h3, h4, _⟩ := HCP.out name r h1 h2
        have h5 := HB.out (by
          rw [h4, h3]
          rw [List.drop_left' (strB_sz name)]
          rw [List.all_eq_true]
          intro x hx
          have := List.mem_of_mem_take hx
          rw [List.mem_replicate] at this
          simpa using this.2)
        cases h5
      | false =>
        go_wp2_with fail
        refine (hRR _).mono ?_
        rintro e w5 ⟨rfl, rfl⟩
        cases hok : nameOk nm with
        | true =>
          go_wp2_with fail
          refine bodyPost_ret (results_tmp2 rfl _ _ _) rfl ?_
          refine ⟨_, ⟨_, rfl⟩, _, H4.drop, HR3.out, hns, fun name r h1 h2 => ?_⟩
          obtain ⟨h3, h4, _⟩ := HCP.out name r h1 h2
          rw [HNM.out, h4, h3, List.take_left' (strB_sz name)]
          rfl
        | false =>
          go_wp2_with fail
          refine bodyPost_ret (results_tmp2 rfl _ _ _) rfl ?_
          refine ⟨_, ⟨_, rfl⟩, _, H4.drop, HR3.out, by decide, fun name r h1 h2 => ?_⟩
          obtain ⟨h3, h4, _⟩ := HCP.out name r h1 h2
          have : nm = name := by
            rw [HNM.out, h4, h3, List.take_left' (strB_sz name)]
            rfl
          rw [this, h1] at hok
          cases hok
    · have t0 : decide ((16 : Int) < (n : Int)) = true := by simp; omega
      clear hcv hsub
      go_wp2_with fail
      refine bodyPost_ret (results_tmp2 rfl _ _ _) rfl ?_
      exact ⟨_, ⟨_, rfl⟩, _, H4.drop, HR3.out, by decide, fun name r h1 h2 => by
        have h3 := (HCP.out name r h1 h2).1
        have := nameOk_le h1
        omega⟩
end Sh
