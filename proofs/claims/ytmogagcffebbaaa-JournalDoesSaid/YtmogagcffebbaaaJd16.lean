/- EntPut EntGath: joined texts, each with its own sentence below. -/
import Derived.Test.YtmogagcffebbaaaJd9
import Derived.Test.YtmogagcffebbaaaJd10
import Derived.Test.YtmogagcffebbaaaJd11
import Derived.Test.YtmogagcffebbaaaJd15
import Derived.Test.YtmogagcffebbaaaJd12
/- entry.Put. -/
set_option linter.unusedVariables false
set_option linter.unusedSimpArgs false
namespace Sh
open Go Go.RowKit Go.Proofs
attribute [local go_sem ↓] Go.wp_at_zero Go.wp_at_succ
set_option maxHeartbeats 1000000
set_option maxRecDepth 100000
attribute [local go_sem] Oper.semAt_some

theorem Snap.some_cell {R : Snap} {b o : Nat} {v : Value} (h : R.cell? ⟨b, o, none⟩ = some v) : (R.blk b).isSome = true := by
  unfold Snap.cell? at h
  cases hb : R.blk b with
  | none => rw [hb] at h; cases h
  | some _ => rfl
/-- An append says where the new row lies. -/
theorem step_appendB_at {B : Nat} {w : World} {R : Snap} {L : Asrt} {v u : Value} {l k : List UInt8} {ops : Array Oper} {o : Oper} {a : Act} {K : Act → World → Prop} {Q : Exit → Act → World → Prop} {E : Prop} (hgd : o.guard = none) (s x : Operand)
    (ho : o.op = .call { callee := .builtin .append, args := #[s, x], argTypes := #[tBytes, tBytes] })
    (hs : a.eval s = v) (hx : a.eval x = u) (H : Holds w R (star (rowB v l) L)) (hr : RdB w.cell? u k) (hk : 0 < k.length) (hb : l.length + k.length ≤ 100000000) (hB : B ≤ w.heap.size) (hv : ∀ j, v.ownBlock = some j → B ≤ j)
    (hK : ∀ v' w', Holds w' R (star (rowB v' (l ++ k)) L) → (∀ j, v'.ownBlock = some j → B ≤ j) → K (a.put o.dst v') w') : if Region.wanted o (yielded ops a.tmps) = true then Oper.wp Try.prog o a w K Q else E := by
  rw [if_pos (by simp [Region.wanted, hgd])]
  obtain ⟨i, hi, hz, hsize, hby⟩ := info_parts infoU8
  obtain ⟨F, hF, kk⟩ := H.upd
  obtain ⟨hown, hown'⟩ := row_owns hF
  obtain ⟨au, cu, rfl⟩ := hr.form
  obtain ⟨b, o2, rfl, hc⟩ := RdB.open hr hk
  obtain ⟨v', w', hrun, q1, q2, _, q4⟩ := run_append_own_at (P := Try.prog) w 0 tBytes o.type tU8 i (.int .u8 0) 1 1 undBytes hi hz hsize hby rfl (by decide) v l.length (u8s l) hown ⟨b, o2, none⟩ k.length cu (u8s k) (by simp) (fun j x hx => by
    have hj : j < k.length := by have := (List.getElem?_eq_some_iff.1 hx).1; rwa [u8s_length] at this
    rw [u8s_get _ _ hj, Option.some.injEq] at hx
    rw [add_plain, hc j hj, hx]) (u8s_one k) (by simp only [maxLen]; omega) (by omega) (Nat.zero_le _)
  have H' : Holds w' R (star (rowB v' (l ++ k)) L) := by
    have h := kk w' _ _ (owns_row q1) q2.os q2.tape q2.output (fun j hj hn => q2.block j hj (fun e => hn ((hown' j).1 e.symm))) (fun j hj => by
      rcases q4 with h | h
      · exact .inl ((hown' j).1 (h ▸ hj))
      · rw [h] at hj; injection hj with hj; exact .inr (Nat.le_of_eq hj))
    rw [← u8s_append, ← List.length_append] at h
    exact h
  unfold Oper.wp execOp
  simp only [ho, resolve, invoke, builtin, Sem.run_bind, Sem.run_pure, Result.andThen_ok, List.map_toArray, List.map_cons, List.map_nil, hs, hx, hrun]
  refine hK v' w' H' (fun j hj => ?_)
  rcases q4 with h | h
  · exact hv j (h ▸ hj)
  · rw [h] at hj; injection hj with hj; omega

/-- The same, but for a panic: there is none. -/
def noPanic (Q : Exit → Act → World → Prop) : Exit → Act → World → Prop
  | .panic _, _, _ => False
  | e, a, w => Q e a w
theorem noPanic_ret {Q : Exit → Act → World → Prop} {a : Act} {w : World} (h : Q .ret a w) : noPanic Q .ret a w := h
theorem noPanic_le {Q : Exit → Act → World → Prop} : ∀ (e : Exit) (a : Act) (w : World), noPanic Q e a w → Q e a w
  | .panic _, _, _, h => h.elim
  | .normal, _, _, h => h
  | .ret, _, _, h => h
  | .exit _, _, _, h => h
  | .goto _, _, _, h => h
  | .outgrown, _, _, h => h
def headC (b : List UInt8) : List UInt8 := nb 1 106 ++ (nb 1 (partsN b.length : Nat) ++ (nb 2 (b.length : Nat) ++ nb 4 (tn (crcOf b))))
def partC (b : List UInt8) (i : Nat) : List UInt8 := (b.drop (58 * i)).take 58
def bodyC (b : List UInt8) (i : Nat) : List UInt8 := 98 :: UInt8.ofNat i :: partC b i
def putC (E : List En) : List (List UInt8) := sealS (headC (textC E)) :: (List.range (partsN (textC E).length)).map fun i => sealS (bodyC (textC E) i)
theorem headC_len (b : List UInt8) : (headC b).length = 8 := by simp [headC, nb_length, wid_1, wid_2, wid_4]
theorem partC_len (b : List UInt8) (i : Nat) : (partC b i).length = min 58 (b.length - 58 * i) := by rw [partC, List.length_take, List.length_drop]
theorem bodyC_len (b : List UInt8) (i : Nat) : (bodyC b i).length ≤ 60 := by
  have := partC_len b i
  simp [bodyC]; omega
theorem placeC_le {cs : List Ch} (h : checkC (conC cs) = 0) : ∀ x ∈ cs, x.at_ ≤ 9223372036854775807 := by
  intro x hx
  have h1 := (checkC_ok h).1
  rw [List.all_eq_true] at h1
  have h2 := h1 (x.at_, x.data) (by unfold conC; exact List.mem_map.2 ⟨x, hx, rfl⟩)
  simp [placeC] at h2
  omega
set_option maxHeartbeats 8000000
theorem entPut_bad {w : World} {R : Snap} {L : Asrt} {pt : Option Addr} {v : Value} {cs : List Ch} (H : Holds w R L) (hr : RdC R.cell? v cs) (hz : SzC cs) (hok : checkC (conC cs) ≠ 0) :
    Calls Try.prog 63 #[.pointer pt, v] w fun e w' => e = .returned (.tuple #[.slice none 0 0, .int .i64 (checkC (conC cs))]) ∧ Holds w' R L := by
  obtain ⟨a, c, rfl⟩ := hr.form
  obtain ⟨k, hk⟩ : ∃ k, k = checkC (conC cs) := ⟨_, rfl⟩
  have H1 := H.garbage (.cells #[.pointer pt] 79)
  have HR := Hid.mk' hr
  have HK := Hid.mk' hk
  rw [← hk] at hok ⊢
  have t1 : (k != 0) = true := by simpa using hok
  have HOK := Hid.mk' hok
  clear hr hk hok
  go_enter Try.func63, Try.ntmps63
  go_wp2_with fail
  refine (check_spec H1 HR.out hz).mono ?_
  rintro e w2 ⟨rfl, H2⟩
  rw [← HK.out]
  go_wp2_with fail
  refine bodyPost_ret (results_tmp2 rfl _ _ _) rfl ?_
  exact ⟨rfl, H2⟩
theorem entPut_ok {w : World} {R : Snap} {L : Asrt} {p : Nat} {v : Value} {cs : List Ch} (H : Holds w R L) (hcy : L.celly) (hT : R.blk p = some (.cells (rowC 256) tabT (0, 0))) (hr : RdC R.cell? v cs) (hz : SzC cs) (hok : checkC (conC cs) = 0) :
    Calls Try.prog 63 #[.pointer (some ⟨p, 0, none⟩), v] w fun e w' => ∃ (o : Value) (q : List (Value × List UInt8)), e = .returned (.tuple #[o, .int .i64 0]) ∧ q.map (·.2) = putC (conC cs) ∧ Holds w' R (star (row tBytes 1 o q.length (q.map (·.1))) (star (bytesAll q) L)) := by
  obtain ⟨a0, c0, rfl⟩ := hr.form
  have HR := Hid.mk' hr
  have HZ := Hid.mk' hz
  have HOK := Hid.mk' hok
  have HSE := Hid.mk' (checkC_ok hok).2.2.2
  have HPL0 := Hid.mk' (placeC_le hok)
  obtain ⟨n0, hn0⟩ : ∃ n, n = cs.length := ⟨_, rfl⟩
  have HN0 := Hid.mk' hn0
  obtain ⟨E, hE⟩ : ∃ E, E = conC cs := ⟨_, rfl⟩
  have HE := Hid.mk' hE
  rw [← hE]
  obtain ⟨R1, le1, H1, hb1⟩ := H.allocR (.cells #[.pointer (some ⟨p, 0, none⟩)] 79 (0, 0))
  have hT2 := le1.blk _ _ hT
  rw [← hn0]
  clear H hT hr hz hok hn0 hE
  refine (callsIn_wide (n := 3)).1 (callsIn_of_wp_marks Try.func63 rfl trivial ?_ rfl)
  simp only [Try.ntmps63, List.size_toArray, List.length_cons, List.length_nil, Nat.reduceAdd, Nat.reduceSub, Array.replicate_succ, Array.replicate_zero, List.push_toArray, List.append_toArray, List.nil_append, List.cons_append]
  refine wpIn_mono (wpIn_wide.2 ?_) noPanic_le
  obtain ⟨Q0, hQ0⟩ : ∃ Q0, Q0 = noPanic (bodyPostM Fence.wide 3 Try.prog Try.f63 (fun e w' => ∃ (o : Value) (q : List (Value × List UInt8)), e = .returned (.tuple #[o, .int .i64 0]) ∧ q.map (·.2) = putC E ∧ Holds w' R (star (row tBytes 1 o q.length (q.map (·.1))) (star (bytesAll q) L)))) := ⟨_, rfl⟩
  rw [← hQ0]
  have HQ0 := Hid.mk' hQ0
  clear hQ0
  go_upto_region 1 with fail
  generalize (World.alloc ..) = w1 at H1 ⊢
  generalize w.heap.size = g1 at hb1 ⊢
  go_wp2_with fail
  refine (check_spec H1 (by have h := HR.out.le le1; rw [← HN0.out] at h; exact h) HZ.out).mono ?_
  rintro e w2 ⟨rfl, H2⟩
  rw [HOK.out]
  clear H1
  go_wp2_with fail
  refine (text18_spec H2 (by have h := HR.out.le le1; rw [← HN0.out] at h; exact h) HSE.out HPL0.out).mono ?_
  rintro e w3 ⟨o3, rfl, H3⟩
  rw [← HE.out] at H3
  obtain ⟨R4, le4, H4, hr4⟩ := H3.freezeRow
  obtain ⟨bt, hbt⟩ : ∃ bt, bt = textC E := ⟨_, rfl⟩
  rw [← hbt] at hr4
  obtain ⟨N, hN⟩ : ∃ N, N = bt.length := ⟨_, rfl⟩
  have hN9 : 2 ≤ N ∧ N ≤ 1856 := by
    have h1 := HSE.out
    rw [← HE.out] at h1
    have h2 := sizeC_len E
    rw [hN, hbt, textC_len]; omega
  replace hr4 : Rd R4.cell? 1 o3 N (u8s bt) := by rw [hN]; exact hr4
  obtain ⟨as_, cs_, rfl⟩ := Rd.form hr4
  have hB := Rd.bounds hr4
  have HSB : Hid (RdB R4.cell? (.slice as_ N cs_) bt) := Hid.mk' (by unfold RdB; rw [← hN]; exact hr4)
  have HN := Hid.mk' hN
  have HBT := Hid.mk' hbt
  replace hb1 := le4.blk _ _ hb1
  replace hT2 := le4.blk _ _ hT2
  have leA := le1.trans le4
  obtain ⟨hN1, hN2⟩ := hN9
  clear H2 H3 hr4 hbt hN le1 le4
  go_upto_region 6 with fail
  have H5 := (((H4.nilRow tU8 1).alloc #[.slice none 0 0] tBytes).toRow 1 1 1 (Nat.le_refl _) (by decide) rfl).alloc #[.slice (some ⟨w3.heap.size, 0, none⟩) 1 1] tSecs
  rw [World.size_alloc] at H5
  replace H5 : Holds _ R4 (star (blk (w3.heap.size + 1) #[.slice (some ⟨w3.heap.size, 0, none⟩) 1 1] tSecs) (star (row tBytes 1 (.slice (some ⟨w3.heap.size, 0, none⟩) 1 1) 1 [.slice none 0 0]) (star (rowB (.slice none 0 0) []) L))) := H5
  rw [← bytesAll_one] at H5
  generalize (World.alloc ..) = w5 at H5 ⊢
  generalize w3.heap.size + 1 = g7 at H5 ⊢
  generalize w3.heap.size = gq at H5 ⊢
  clear H4
  go_wp2_with fail
  refine (entPieces_spec as_ N cs_ _).mono ?_
  rintro e w6 ⟨rfl, rfl⟩
  have H6 := H5.alloc #[.slice as_ N cs_] tBytes
  go_wp2_with fail
  generalize (World.alloc ..) = w6 at H6 ⊢
  generalize w5.heap.size = g3 at H6 ⊢
  clear H5
  obtain ⟨b0, o0, ha⟩ : ∃ b0 o0, 0 < N → as_ = some ⟨b0, o0, none⟩ := by
    obtain ⟨b1, o1, h1, _⟩ := RdB.open (by have := HSB.out; rw [HN.out] at this; exact this) (by rw [← HN.out]; omega)
    exact ⟨b1, o1, fun _ => h1⟩
  have hsq := entPieces_stops g3 N cs_ b0 o0 as_ ha (by omega) hB.1 hB.2.1 w6 H6.blkAt
  refine wp_rangeMut (encs := fun x : Fin (partsN N) => #[.int .i64 (x.1 : Nat), partV b0 o0 N cs_ x.1]) (R0 := R4) (A := outA g7 L) rfl (enters_of Try.func191 (by kernel_rfl) rfl) hsq (fun _ => rfl)
    (fun pre b => b.2.map (·.2) = [] :: pre.map (fun i => sealS (bodyC bt i.1))) (outA_celly hcy) (.slice (some ⟨gq, 0, none⟩) 1 1, [(.slice none 0 0, [])]) _ rfl H6
    (fun a x => { tmps := (((a.tmps.setIfInBounds 22 (.int .i64 (x.1 : Nat))).setIfInBounds 23 (partV b0 o0 N cs_ x.1)).setIfInBounds 9 (.int .i64 (x.1 : Nat))).setIfInBounds 10 (partV b0 o0 N cs_ x.1), defers := [] }) ?assign ?body ?done
  case assign =>
    intro l x W K hK
    gi_wp2
    exact hK
  case body =>
    rintro l pre x ⟨v, q⟩ W R5 hq hlen le01 H16
    refine wpIn_block ?_
    generalize hQB : Exit.inBlock 1 _ = QB
    have hL : ¬ LetsOut QB := by rw [← hQB]; exact fun ⟨_, _, h, _⟩ => by cases h
    have hfin : ∀ (a : Act) (W' : World) (v' : Value) (q' : List (Value × List UInt8)) (R' : Snap), R5.le R' → W.heap.size ≤ W'.heap.size → q'.map (·.2) = [] :: (pre ++ [x]).map (fun i => sealS (bodyC bt i.1)) → Holds W' R' (outA g7 L (v', q')) → QB .normal a W' := by
      rw [← hQB]; exact fun a W' v' q' R' h1 h2 h3 h4 => ⟨rfl, (v', q'), R', h1, h2, h3, h4⟩
    have hpan : ∀ c (a : Act) (W' : World), QB (.panic c) a W' → False := by rw [← hQB]; exact fun c a W' h => by cases h.1
    have HPN := Hid.mk' hpan
    clear hQB hpan
    have hx58 := x.2
    have hi : 58 * x.1 < N := by unfold partsN at hx58; omega
    replace hb1 := le01.blk _ _ hb1
    replace hT2 := le01.blk _ _ hT2
    unfold outA at H16
    simp only at H16
    obtain ⟨i, hxi⟩ : ∃ i, i = x.1 := ⟨_, rfl⟩
    simp only [← hxi]
    have hi32 : i < 32 := by unfold partsN at hx58; omega
    rw [← hxi] at hi
    have hpr : RdB R5.cell? (partV b0 o0 N cs_ i) (partC bt i) := by
      have h1 : RdB R5.cell? (.slice as_ bt.length cs_) bt := by
        rw [← HN.out]; exact Sh.Rd.le HSB.out le01
      have h2 := RdB.sub h1 (58 * i) (min (58 * i + 58) N) cs_ (by omega) (by rw [← HN.out]; omega) (by omega) (Nat.le_refl _)
      have h3 : adr as_ cs_ (58 * i) 1 = some ⟨b0, o0 + 58 * i, none⟩ := by
        rw [ha (by omega), adr, if_neg (by omega)]
        simp [Addr.add]
      rw [h3] at h2
      have h4 : (bt.drop (58 * i)).take (min (58 * i + 58) N - 58 * i) = partC bt i := by
        show _ = (bt.drop (58 * i)).take 58
        by_cases h : 58 * i + 58 ≤ N
        · rw [Nat.min_eq_left h]; congr 1; omega
        · rw [List.take_of_length_le (by rw [List.length_drop, ← HN.out]; omega), List.take_of_length_le (by rw [List.length_drop, ← HN.out]; omega)]
      rw [h4] at h2
      have h5 : min (58 * i + 58) N - 58 * i = min (N - 58 * i) 58 := by omega
      rw [h5] at h2
      exact h2
    have hpl : 0 < (partC bt i).length ∧ (partC bt i).length ≤ 58 := by
      rw [partC_len, ← HN.out]; omega
    obtain ⟨pv, hpv⟩ : ∃ pv, pv = partV b0 o0 N cs_ i := ⟨_, rfl⟩
    rw [← hpv] at hpr ⊢
    obtain ⟨ap, cp, rfl⟩ := hpr.form
    obtain ⟨bd, hbd⟩ : ∃ bd, [98, UInt8.ofNat i] ++ partC bt i = bd := ⟨_, rfl⟩
    have hbl : bd.length ≤ 60 := by rw [← hbd, List.length_append]; simp; omega
    have hb0 : 0 < bd.length := by rw [← hbd, List.length_append]; simp; omega
    obtain ⟨pn, hpn⟩ : ∃ pn, pn = (partC bt i).length := ⟨_, rfl⟩
    have HPR : Hid (RdB R5.cell? (.slice ap (partC bt i).length cp) (partC bt i)) := Hid.mk' hpr
    have HPL := Hid.mk' hpl
    have HBD := Hid.mk' hbd
    have HBDS : Hid (bodyC bt i = bd) := Hid.mk' hbd
    have HXI := Hid.mk' hxi
    have hqn : q.length ≤ 100 := by
      have := congrArg List.length hq
      simp only [List.length_map, List.length_cons] at this
      have h2 : partsN N ≤ 50 := by unfold partsN; omega
      omega
    have hi8 : ((UInt8.ofNat i).toNat : Int) = (i : Int) := by rw [UInt8.toNat_ofNat']; omega
    have HBX : Hid (∀ (w : World) (R : Snap) (L : Asrt) (b : Nat), Holds w R (star (blk b #[.int .u8 98, .int .u8 (i : Int)] tU8) L) → Holds w R (star (rowB (.slice (some ⟨b, 0, none⟩) 2 2) [98, UInt8.ofNat i]) L)) := Hid.mk' (fun _ _ _ _ H => by
      refine blkB (n := 2) H _ ?_ rfl (by simp)
      show [Value.int .u8 98, Value.int .u8 (i : Int)] = [Value.int .u8 ((98 : UInt8).toNat : Int), Value.int .u8 ((UInt8.ofNat i).toNat : Int)]
      rw [hi8]; rfl)
    have hw8 : IntKind.u8.wrap (i : Int) = (i : Int) := by simp [IntKind.wrap, IntKind.signed, IntKind.bits]; omega
    obtain ⟨sz, hsz⟩ : ∃ s, s = W.heap.size := ⟨_, rfl⟩
    have HSZ0 := Hid.mk' hsz
    rw [← hsz] at hfin
    have HF := Hid.mk' hfin
    clear hpr hpl hbd hpn hi8 hpv hfin hxi hx58
    refine draw_round (by kernel_rfl) (by rfl) hL ?_
    have hsz3 : W.drew.heap.size = sz := hsz.symm
    have H23 := H16.drew
    generalize (World.drew W) = w23 at H23 hsz3 ⊢
    have HSZ3 := Hid.mk' hsz3
    clear H16 hsz hsz3
    refine wpAny_of_held (S := fun w' => w'.cell? ⟨g1, 0, none⟩ = some (.pointer (some ⟨p, 0, none⟩))) _ _ _ _ ?_
    have hS : w23.cell? ⟨g1, 0, none⟩ = some (.pointer (some ⟨p, 0, none⟩)) := H23.frz hb1 0
    refine wpAnyH_take (i := 1) (v := .pointer (some ⟨p, 0, none⟩)) rfl (by kernel_rfl) (by kernel_rfl) (by kernel_rfl) (fun c a w h => (HPN.out _ _ _ h).elim) (Or.inl ⟨by rfl, ?_⟩) hS ?_
    · intro w hSw
      go_simp
    try simp only [Act.put, List.setIfInBounds_toArray, List.set_cons_zero, List.set_cons_succ]
    refine wpAnyH_take (i := 2) (v := .int .i64 (i : Int)) rfl (by kernel_rfl) (by kernel_rfl) (by kernel_rfl) (fun c a w h => (HPN.out _ _ _ h).elim) (Or.inl ⟨by rfl, ?_⟩) hS ?_
    · intro w hSw
      go_simp
    try simp only [Act.put, List.setIfInBounds_toArray, List.set_cons_zero, List.set_cons_succ]
    refine wpAnyH_take (i := 3) (v := .int .u8 (i : Int)) rfl (by kernel_rfl) (by kernel_rfl) (by kernel_rfl) (fun c a w h => (HPN.out _ _ _ h).elim) (Or.inl ⟨by rfl, ?_⟩) hS ?_
    · intro w hSw
      go_simp
    try simp only [Act.put, List.setIfInBounds_toArray, List.set_cons_zero, List.set_cons_succ]
    refine wpAnyH_take (i := 5) (v := .slice ap (partC bt i).length cp) rfl (by kernel_rfl) (by kernel_rfl) (by kernel_rfl) (fun c a w h => (HPN.out _ _ _ h).elim) (Or.inl ⟨by rfl, ?_⟩) hS ?_
    · intro w hSw
      go_simp
    try simp only [Act.put, List.setIfInBounds_toArray, List.set_cons_zero, List.set_cons_succ]
    clear hS
    refine wpAnyH_ready (rs := [0, 4]) (by kernel_rfl) (by simp) ?_
    refine AllReadyH.cons rfl (fun K hK => ?_) (AllReadyH.cons rfl (fun K hK => ?_) AllReadyH.nil)
    · obtain ⟨l7, n7, c7, z7⟩ := Holds.facts (H23)
      go_simp
      refine hK.out _ _ (Holds.frz H23 (hb1) 0) (fun _ => ?_)
      clear l7 n7 c7 z7 hK K
      refine wpAnyH_ready (rs := [4]) (by kernel_rfl) (by simp) ?_
      refine AllReadyH.cons rfl (fun K hK => ?_) AllReadyH.nil
      go_simp
      have H24 := HBX.out _ _ _ _ (H23.alloc #[.int .u8 98, .int .u8 (i : Int)] tU8)
      refine hK.out _ _ (H24.frz hb1 0) (fun _ => ?_)
      clear hK K
      refine wpAnyH_ready (rs := [6]) (by kernel_rfl) (by simp) ?_
      refine AllReadyH.cons rfl (fun K hK => ?_) AllReadyH.nil
      refine step_appendB_at (B := sz) rfl _ _ (by rfl) (by rfl) (by rfl) H24 (Rd.world HPR.out H24) (by have h := HPL.out; omega) (by have h := HPL.out; simp; omega) (by rw [World.size_alloc]; have h := HSZ3.out; omega) (fun k hk => by have h := HSZ3.out; simp [Value.ownBlock] at hk; omega) ?_
      intro v25 w25 H25 hat25
      rw [HBD.out] at H25
      obtain ⟨g25, c25, rfl, _, _, _, _⟩ := H25.rowAt hb0
      have hsz25 := hat25 g25 rfl
      obtain ⟨R26, le26, H26, hr26⟩ := H25.freezeRow
      have HR26 := Hid.mk' hr26
      have HZ25 := Hid.mk' hsz25
      refine hK.out _ _ (H26.frz (le26.blk _ _ hb1) 0) (fun _ => ?_)
      clear hr26 hat25 hsz25 hK K
      refine wpAnyH_ready (rs := [7]) (by kernel_rfl) (by simp) ?_
      refine AllReadyH.cons rfl (fun K hK => ?_) AllReadyH.nil
      go_simp
      refine (sseal_spec H26 (le26.blk _ _ hT2) HR26.out).mono ?_
      rintro e w27 ⟨o27, rfl, H27⟩
      obtain ⟨a27, c27, rfl⟩ := H27.rowRd.form
      rw [sealS_len hbl] at H27
      rw [sealS_len hbl]
      refine hK.out _ _ (H27.frz (le26.blk _ _ hb1) 0) (fun _ => ?_)
      clear hK K
      refine wpAnyH_ready (rs := [8]) (by kernel_rfl) (by simp) ?_
      refine AllReadyH.cons rfl (fun K hK => ?_) AllReadyH.nil
      go_simp
      have H28 := H27.alloc #[.slice a27 64 c27] tBytes
      have hr28 : Rd _ 1 _ 1 _ := (H28.toRow 1 1 1 (Nat.le_refl _) (by simp [maxLen]) rfl).rowRd
      refine hK.out _ _ (H28.frz (le26.blk _ _ hb1) 0) (fun _ => ?_)
      clear hK K
      refine wpAnyH_ready (rs := [9]) (by kernel_rfl) (by simp) ?_
      refine AllReadyH.cons rfl (fun K hK => ?_) AllReadyH.nil
      refine step_append rfl _ _ (by rfl) undSecs infoBytes rfl (by decide) (by rfl) (by rfl) H28.drop.pick3 hr28 (by simp [Value.oneCell']) (by simp only [maxLen]; omega) (by omega) ?_
      intro v29 w29 H29
      obtain ⟨a29, c29, rfl⟩ := H29.rowRd.form
      refine hK.out _ _ (H29.frz (le26.blk _ _ hb1) 0) (fun _ => ?_)
      try simp only [Act.put, List.setIfInBounds_toArray, List.set_cons_zero, List.set_cons_succ]
      clear hK K
      obtain ⟨l7, n7, c7, z7⟩ := Holds.facts H29.pick3
      refine wpAnyH_ready (rs := [10]) (by kernel_rfl) (by simp) ?_
      refine AllReadyH.cons rfl (fun K hK => ?_) AllReadyH.nil
      go_simp
      have H30 := H29.pick3.set 0 (.slice a29 (q.length + 1) c29)
      refine hK.out _ _ (H30.frz (le26.blk _ _ hb1) 0) (fun _ => ?_)
      clear hK K
      refine wpAnyH_done (by kernel_rfl) ?_ _
      exact HF.out _ _ (.slice a29 (q.length + 1) c29) (q ++ [(.slice a27 64 c27, sealS bd)]) R26 le26 (by
        have h1 := HZ25.out
        obtain ⟨b9, o9, e9, hc9⟩ := RdB.open HR26.out hb0
        simp only [Option.some.injEq, Addr.mk.injEq, and_true] at e9
        obtain ⟨rfl, rfl⟩ := e9
        have h2 := H30.lt _ (Snap.some_cell (hc9 0 hb0))
        omega) (by rw [List.map_append, hq]; simp [← HXI.out, HBDS.out]) (by
        unfold outA
        simp only [List.map_append, List.length_append, List.length_singleton, List.map_cons, List.map_nil, bytesAll_append, bytesAll_one]
        exact H30.ac (by ac_rfl))
    · go_simp
      have H24 := HBX.out _ _ _ _ (H23.alloc #[.int .u8 98, .int .u8 (i : Int)] tU8)
      refine hK.out _ _ (H24.frz hb1 0) (fun _ => ?_)
      clear hK K
      refine wpAnyH_ready (rs := [0, 6]) (by kernel_rfl) (by simp) ?_
      refine AllReadyH.cons rfl (fun K hK => ?_) (AllReadyH.cons rfl (fun K hK => ?_) AllReadyH.nil)
      · obtain ⟨l7, n7, c7, z7⟩ := Holds.facts (H24.swap)
        go_simp
        refine hK.out _ _ (Holds.frz H24.swap (hb1) 0) (fun _ => ?_)
        clear l7 n7 c7 z7 hK K
        refine wpAnyH_ready (rs := [6]) (by kernel_rfl) (by simp) ?_
        refine AllReadyH.cons rfl (fun K hK => ?_) AllReadyH.nil
        refine step_appendB_at (B := sz) rfl _ _ (by rfl) (by rfl) (by rfl) H24 (Rd.world HPR.out H24) (by have h := HPL.out; omega) (by have h := HPL.out; simp; omega) (by rw [World.size_alloc]; have h := HSZ3.out; omega) (fun k hk => by have h := HSZ3.out; simp [Value.ownBlock] at hk; omega) ?_
        intro v25 w25 H25 hat25
        rw [HBD.out] at H25
        obtain ⟨g25, c25, rfl, _, _, _, _⟩ := H25.rowAt hb0
        have hsz25 := hat25 g25 rfl
        obtain ⟨R26, le26, H26, hr26⟩ := H25.freezeRow
        have HR26 := Hid.mk' hr26
        have HZ25 := Hid.mk' hsz25
        refine hK.out _ _ (H26.frz (le26.blk _ _ hb1) 0) (fun _ => ?_)
        clear hr26 hat25 hsz25 hK K
        refine wpAnyH_ready (rs := [7]) (by kernel_rfl) (by simp) ?_
        refine AllReadyH.cons rfl (fun K hK => ?_) AllReadyH.nil
        go_simp
        refine (sseal_spec H26 (le26.blk _ _ hT2) HR26.out).mono ?_
        rintro e w27 ⟨o27, rfl, H27⟩
        obtain ⟨a27, c27, rfl⟩ := H27.rowRd.form
        rw [sealS_len hbl] at H27
        rw [sealS_len hbl]
        refine hK.out _ _ (H27.frz (le26.blk _ _ hb1) 0) (fun _ => ?_)
        clear hK K
        refine wpAnyH_ready (rs := [8]) (by kernel_rfl) (by simp) ?_
        refine AllReadyH.cons rfl (fun K hK => ?_) AllReadyH.nil
        go_simp
        have H28 := H27.alloc #[.slice a27 64 c27] tBytes
        have hr28 : Rd _ 1 _ 1 _ := (H28.toRow 1 1 1 (Nat.le_refl _) (by simp [maxLen]) rfl).rowRd
        refine hK.out _ _ (H28.frz (le26.blk _ _ hb1) 0) (fun _ => ?_)
        clear hK K
        refine wpAnyH_ready (rs := [9]) (by kernel_rfl) (by simp) ?_
        refine AllReadyH.cons rfl (fun K hK => ?_) AllReadyH.nil
        refine step_append rfl _ _ (by rfl) undSecs infoBytes rfl (by decide) (by rfl) (by rfl) H28.drop.pick3 hr28 (by simp [Value.oneCell']) (by simp only [maxLen]; omega) (by omega) ?_
        intro v29 w29 H29
        obtain ⟨a29, c29, rfl⟩ := H29.rowRd.form
        refine hK.out _ _ (H29.frz (le26.blk _ _ hb1) 0) (fun _ => ?_)
        try simp only [Act.put, List.setIfInBounds_toArray, List.set_cons_zero, List.set_cons_succ]
        clear hK K
        obtain ⟨l7, n7, c7, z7⟩ := Holds.facts H29.pick3
        refine wpAnyH_ready (rs := [10]) (by kernel_rfl) (by simp) ?_
        refine AllReadyH.cons rfl (fun K hK => ?_) AllReadyH.nil
        go_simp
        have H30 := H29.pick3.set 0 (.slice a29 (q.length + 1) c29)
        refine hK.out _ _ (H30.frz (le26.blk _ _ hb1) 0) (fun _ => ?_)
        clear hK K
        refine wpAnyH_done (by kernel_rfl) ?_ _
        exact HF.out _ _ (.slice a29 (q.length + 1) c29) (q ++ [(.slice a27 64 c27, sealS bd)]) R26 le26 (by
          have h1 := HZ25.out
          obtain ⟨b9, o9, e9, hc9⟩ := RdB.open HR26.out hb0
          simp only [Option.some.injEq, Addr.mk.injEq, and_true] at e9
          obtain ⟨rfl, rfl⟩ := e9
          have h2 := H30.lt _ (Snap.some_cell (hc9 0 hb0))
          omega) (by rw [List.map_append, hq]; simp [← HXI.out, HBDS.out]) (by
          unfold outA
          simp only [List.map_append, List.length_append, List.length_singleton, List.map_cons, List.map_nil, bytesAll_append, bytesAll_one]
          exact H30.ac (by ac_rfl))
      · refine step_appendB_at (B := sz) rfl _ _ (by rfl) (by rfl) (by rfl) H24 (Rd.world HPR.out H24) (by have h := HPL.out; omega) (by have h := HPL.out; simp; omega) (by rw [World.size_alloc]; have h := HSZ3.out; omega) (fun k hk => by have h := HSZ3.out; simp [Value.ownBlock] at hk; omega) ?_
        intro v25 w25 H25 hat25
        rw [HBD.out] at H25
        obtain ⟨g25, c25, rfl, _, _, _, _⟩ := H25.rowAt hb0
        have hsz25 := hat25 g25 rfl
        obtain ⟨R26, le26, H26, hr26⟩ := H25.freezeRow
        have HR26 := Hid.mk' hr26
        have HZ25 := Hid.mk' hsz25
        refine hK.out _ _ (H26.frz (le26.blk _ _ hb1) 0) (fun _ => ?_)
        clear hr26 hat25 hsz25 hK K
        refine wpAnyH_ready (rs := [0, 7]) (by kernel_rfl) (by simp) ?_
        refine AllReadyH.cons rfl (fun K hK => ?_) (AllReadyH.cons rfl (fun K hK => ?_) AllReadyH.nil)
        · obtain ⟨l7, n7, c7, z7⟩ := Holds.facts (H26)
          go_simp
          refine hK.out _ _ (Holds.frz H26 (le26.blk _ _ hb1) 0) (fun _ => ?_)
          clear l7 n7 c7 z7 hK K
          refine wpAnyH_ready (rs := [7]) (by kernel_rfl) (by simp) ?_
          refine AllReadyH.cons rfl (fun K hK => ?_) AllReadyH.nil
          go_simp
          refine (sseal_spec H26 (le26.blk _ _ hT2) HR26.out).mono ?_
          rintro e w27 ⟨o27, rfl, H27⟩
          obtain ⟨a27, c27, rfl⟩ := H27.rowRd.form
          rw [sealS_len hbl] at H27
          rw [sealS_len hbl]
          refine hK.out _ _ (H27.frz (le26.blk _ _ hb1) 0) (fun _ => ?_)
          clear hK K
          refine wpAnyH_ready (rs := [8]) (by kernel_rfl) (by simp) ?_
          refine AllReadyH.cons rfl (fun K hK => ?_) AllReadyH.nil
          go_simp
          have H28 := H27.alloc #[.slice a27 64 c27] tBytes
          have hr28 : Rd _ 1 _ 1 _ := (H28.toRow 1 1 1 (Nat.le_refl _) (by simp [maxLen]) rfl).rowRd
          refine hK.out _ _ (H28.frz (le26.blk _ _ hb1) 0) (fun _ => ?_)
          clear hK K
          refine wpAnyH_ready (rs := [9]) (by kernel_rfl) (by simp) ?_
          refine AllReadyH.cons rfl (fun K hK => ?_) AllReadyH.nil
          refine step_append rfl _ _ (by rfl) undSecs infoBytes rfl (by decide) (by rfl) (by rfl) H28.drop.pick3 hr28 (by simp [Value.oneCell']) (by simp only [maxLen]; omega) (by omega) ?_
          intro v29 w29 H29
          obtain ⟨a29, c29, rfl⟩ := H29.rowRd.form
          refine hK.out _ _ (H29.frz (le26.blk _ _ hb1) 0) (fun _ => ?_)
          try simp only [Act.put, List.setIfInBounds_toArray, List.set_cons_zero, List.set_cons_succ]
          clear hK K
          obtain ⟨l7, n7, c7, z7⟩ := Holds.facts H29.pick3
          refine wpAnyH_ready (rs := [10]) (by kernel_rfl) (by simp) ?_
          refine AllReadyH.cons rfl (fun K hK => ?_) AllReadyH.nil
          go_simp
          have H30 := H29.pick3.set 0 (.slice a29 (q.length + 1) c29)
          refine hK.out _ _ (H30.frz (le26.blk _ _ hb1) 0) (fun _ => ?_)
          clear hK K
          refine wpAnyH_done (by kernel_rfl) ?_ _
          exact HF.out _ _ (.slice a29 (q.length + 1) c29) (q ++ [(.slice a27 64 c27, sealS bd)]) R26 le26 (by
            have h1 := HZ25.out
            obtain ⟨b9, o9, e9, hc9⟩ := RdB.open HR26.out hb0
            simp only [Option.some.injEq, Addr.mk.injEq, and_true] at e9
            obtain ⟨rfl, rfl⟩ := e9
            have h2 := H30.lt _ (Snap.some_cell (hc9 0 hb0))
            omega) (by rw [List.map_append, hq]; simp [← HXI.out, HBDS.out]) (by
            unfold outA
            simp only [List.map_append, List.length_append, List.length_singleton, List.map_cons, List.map_nil, bytesAll_append, bytesAll_one]
            exact H30.ac (by ac_rfl))
        · go_simp
          refine (sseal_spec H26 (le26.blk _ _ hT2) HR26.out).mono ?_
          rintro e w27 ⟨o27, rfl, H27⟩
          obtain ⟨a27, c27, rfl⟩ := H27.rowRd.form
          rw [sealS_len hbl] at H27
          rw [sealS_len hbl]
          refine hK.out _ _ (H27.frz (le26.blk _ _ hb1) 0) (fun _ => ?_)
          clear hK K
          refine wpAnyH_ready (rs := [0, 8]) (by kernel_rfl) (by simp) ?_
          refine AllReadyH.cons rfl (fun K hK => ?_) (AllReadyH.cons rfl (fun K hK => ?_) AllReadyH.nil)
          · obtain ⟨l7, n7, c7, z7⟩ := Holds.facts (H27.swap)
            go_simp
            refine hK.out _ _ (Holds.frz H27.swap (le26.blk _ _ hb1) 0) (fun _ => ?_)
            clear l7 n7 c7 z7 hK K
            refine wpAnyH_ready (rs := [8]) (by kernel_rfl) (by simp) ?_
            refine AllReadyH.cons rfl (fun K hK => ?_) AllReadyH.nil
            go_simp
            have H28 := H27.alloc #[.slice a27 64 c27] tBytes
            have hr28 : Rd _ 1 _ 1 _ := (H28.toRow 1 1 1 (Nat.le_refl _) (by simp [maxLen]) rfl).rowRd
            refine hK.out _ _ (H28.frz (le26.blk _ _ hb1) 0) (fun _ => ?_)
            clear hK K
            refine wpAnyH_ready (rs := [9]) (by kernel_rfl) (by simp) ?_
            refine AllReadyH.cons rfl (fun K hK => ?_) AllReadyH.nil
            refine step_append rfl _ _ (by rfl) undSecs infoBytes rfl (by decide) (by rfl) (by rfl) H28.drop.pick3 hr28 (by simp [Value.oneCell']) (by simp only [maxLen]; omega) (by omega) ?_
            intro v29 w29 H29
            obtain ⟨a29, c29, rfl⟩ := H29.rowRd.form
            refine hK.out _ _ (H29.frz (le26.blk _ _ hb1) 0) (fun _ => ?_)
            try simp only [Act.put, List.setIfInBounds_toArray, List.set_cons_zero, List.set_cons_succ]
            clear hK K
            obtain ⟨l7, n7, c7, z7⟩ := Holds.facts H29.pick3
            refine wpAnyH_ready (rs := [10]) (by kernel_rfl) (by simp) ?_
            refine AllReadyH.cons rfl (fun K hK => ?_) AllReadyH.nil
            go_simp
            have H30 := H29.pick3.set 0 (.slice a29 (q.length + 1) c29)
            refine hK.out _ _ (H30.frz (le26.blk _ _ hb1) 0) (fun _ => ?_)
            clear hK K
            refine wpAnyH_done (by kernel_rfl) ?_ _
            exact HF.out _ _ (.slice a29 (q.length + 1) c29) (q ++ [(.slice a27 64 c27, sealS bd)]) R26 le26 (by
              have h1 := HZ25.out
              obtain ⟨b9, o9, e9, hc9⟩ := RdB.open HR26.out hb0
              simp only [Option.some.injEq, Addr.mk.injEq, and_true] at e9
              obtain ⟨rfl, rfl⟩ := e9
              have h2 := H30.lt _ (Snap.some_cell (hc9 0 hb0))
              omega) (by rw [List.map_append, hq]; simp [← HXI.out, HBDS.out]) (by
              unfold outA
              simp only [List.map_append, List.length_append, List.length_singleton, List.map_cons, List.map_nil, bytesAll_append, bytesAll_one]
              exact H30.ac (by ac_rfl))
          · go_simp
            have H28 := H27.alloc #[.slice a27 64 c27] tBytes
            have hr28 : Rd _ 1 _ 1 _ := (H28.toRow 1 1 1 (Nat.le_refl _) (by simp [maxLen]) rfl).rowRd
            refine hK.out _ _ (H28.frz (le26.blk _ _ hb1) 0) (fun _ => ?_)
            clear hK K
            refine wpAnyH_ready (rs := [0]) (by kernel_rfl) (by simp) ?_
            refine AllReadyH.cons rfl (fun K hK => ?_) AllReadyH.nil
            obtain ⟨l7, n7, c7, z7⟩ := Holds.facts (H28.pick3)
            go_simp
            refine hK.out _ _ (Holds.frz H28.pick3 (le26.blk _ _ hb1) 0) (fun _ => ?_)
            clear l7 n7 c7 z7 hK K
            refine wpAnyH_ready (rs := [9]) (by kernel_rfl) (by simp) ?_
            refine AllReadyH.cons rfl (fun K hK => ?_) AllReadyH.nil
            refine step_append rfl _ _ (by rfl) undSecs infoBytes rfl (by decide) (by rfl) (by rfl) H28.drop.pick3 hr28 (by simp [Value.oneCell']) (by simp only [maxLen]; omega) (by omega) ?_
            intro v29 w29 H29
            obtain ⟨a29, c29, rfl⟩ := H29.rowRd.form
            refine hK.out _ _ (H29.frz (le26.blk _ _ hb1) 0) (fun _ => ?_)
            try simp only [Act.put, List.setIfInBounds_toArray, List.set_cons_zero, List.set_cons_succ]
            clear hK K
            obtain ⟨l7, n7, c7, z7⟩ := Holds.facts H29.pick3
            refine wpAnyH_ready (rs := [10]) (by kernel_rfl) (by simp) ?_
            refine AllReadyH.cons rfl (fun K hK => ?_) AllReadyH.nil
            go_simp
            have H30 := H29.pick3.set 0 (.slice a29 (q.length + 1) c29)
            refine hK.out _ _ (H30.frz (le26.blk _ _ hb1) 0) (fun _ => ?_)
            clear hK K
            refine wpAnyH_done (by kernel_rfl) ?_ _
            exact HF.out _ _ (.slice a29 (q.length + 1) c29) (q ++ [(.slice a27 64 c27, sealS bd)]) R26 le26 (by
              have h1 := HZ25.out
              obtain ⟨b9, o9, e9, hc9⟩ := RdB.open HR26.out hb0
              simp only [Option.some.injEq, Addr.mk.injEq, and_true] at e9
              obtain ⟨rfl, rfl⟩ := e9
              have h2 := H30.lt _ (Snap.some_cell (hc9 0 hb0))
              omega) (by rw [List.map_append, hq]; simp [← HXI.out, HBDS.out]) (by
              unfold outA
              simp only [List.map_append, List.length_append, List.length_singleton, List.map_cons, List.map_nil, bytesAll_append, bytesAll_one]
              exact H30.ac (by ac_rfl))
  case done =>
    rintro D xs ⟨v, q⟩ W hDw rfl hq H16 _ hD
    have hBD : ∀ i o, R4.blk i = some o → i < w6.heap.size := H6.blkLtAll
    have hbig := Snap.big_at hD rfl (fun x hx => H16.blk _ _ hx)
    have H17 := H16.big (outA_celly hcy _)
    obtain ⟨R5, hR5⟩ : ∃ R5, R5 = R4.big W := ⟨_, rfl⟩
    have le5 : R4.le R5 := by rw [hR5]; exact R4.le_big W
    rw [← hR5] at hbig H17
    unfold outA at H17
    simp only at H17
    replace hb1 := le5.blk _ _ hb1
    replace hT2 := le5.blk _ _ hT2
    have HFIN : Hid (∀ (wE : World) (R' : Snap) (A' : Asrt), R5.le R' → A'.celly → Holds wE R' A' → wE.heap[D]? = some (.deferred (some [])) ∧ Holds (wE.putObj D (.deferred none)) R4 A') := Hid.mk' (fun wE R' A' h1 h2 h3 => by
      have h4 := h3.blk _ _ (h1.blk _ _ hbig)
      exact ⟨h4, (h3.weaken (le5.trans h1)).putOther _ h2 hBD hDw h4 rfl⟩)
    obtain ⟨⟨v00, l0⟩, qt, rfl⟩ : ∃ x tl, q = x :: tl := by
      cases q with
      | nil => cases hq
      | cons x tl => exact ⟨x, tl, rfl⟩
    obtain ⟨rfl, hqt⟩ := List.cons.inj hq
    obtain ⟨M, hM⟩ : ∃ M, M = partsN N := ⟨_, rfl⟩
    have hM9 : M ≤ 32 := by rw [hM]; unfold partsN; omega
    have hql : (((v00, []) : Value × List UInt8) :: qt).length = M + 1 := by
      have := congrArg List.length hqt
      rw [List.length_map, List.length_map, List.length_finRange] at this
      rw [List.length_cons, this, hM]
    obtain ⟨G, hG⟩ : ∃ G, G = (((v00, []) : Value × List UInt8) :: qt).length := ⟨_, rfl⟩
    rw [← hG] at H17 hql
    obtain ⟨gr, cv, rfl, _, _, _, _⟩ := H17.swap.rowAt (by omega)
    have hGm : (G : Int) - 1 = (M : Int) := by omega
    have hG0 : 0 < G := by omega
    have HGG := Hid.mk' hG
    clear hql
    have HMM := Hid.mk' hM
    have HQT := Hid.mk' hqt
    clear hG hM hq hqt H16 hD hbig hR5 hDw hBD H6 hsq ha
    go_upto_region 11 with fail
    have H18 : Holds _ R5 (star (wr _ []) _) := wr_shut (((H17.alloc #[.slice none 0 0] 153).nilRow tU8 1).swap)
    generalize (World.alloc ..) = w18 at H18 ⊢
    generalize W.heap.size = pw at H18 ⊢
    clear H17
    go_wp2_with fail
    refine (num_spec (k := 1) (n := 106) H18 (by simp) (by omega)).mono ?_
    rintro e w19 ⟨rfl, H19⟩
    rw [List.nil_append] at H19
    clear H18
    obtain ⟨l7, n7, c7, z7⟩ := Holds.facts (H19.swap)
    go_wp2_with fail
    refine (num_spec (k := 1) (n := (M : Nat)) H19 (by simp [nb_length, wid_1]) (by omega)).mono ?_
    rintro e w20 ⟨rfl, H20⟩
    clear H19 l7 n7 c7 z7
    go_wp2_with fail
    refine (num_spec (k := 2) (n := (N : Nat)) H20 (by simp [nb_length, wid_1]) (by omega)).mono ?_
    rintro e w21 ⟨rfl, H21⟩
    clear H20
    obtain ⟨l1, n1, c1⟩ := Holds.frzFacts (H21) hb1
    go_wp2_with fail
    have H22 := H21.alloc #[.slice as_ N cs_] tBytes
    have hp22 := (H22.toRow 1 1 1 (Nat.le_refl _) (by decide) rfl).rowRd
    obtain ⟨sn, hsn, hsn9⟩ : ∃ sn : Nat, tn (crcOf bt) = (sn : Int) ∧ sn ≤ 4294967295 := ⟨(crcOf bt).toNat, rfl, by have := (crcOf bt).isLt; omega⟩
    refine (sum_crc (parts := [(.slice as_ N cs_, bt)]) (H22.frz hT2) hp22 (fun x hx => by
      obtain rfl := List.mem_singleton.1 hx
      have h := Rd.world (Rd.le HSB.out le5) H22
      exact h)).mono ?_
    rintro e w23 ⟨rfl, rfl⟩
    rw [show [((.slice as_ N cs_, bt) : Value × List UInt8)].flatMap (·.2) = bt from by simp, hsn]
    have H23 := H22.drop
    have HSN := Hid.mk' hsn
    clear H21 H22 hp22 hsn l1 n1 c1
    generalize (World.alloc ..) = w23 at H23 ⊢
    go_wp2_with fail
    refine (num_spec (k := 4) (n := (sn : Nat)) H23 (by simp [nb_length, wid_1, wid_2]) (by omega)).mono ?_
    rintro e w24 ⟨rfl, H24⟩
    obtain ⟨hd, hhd⟩ : ∃ hd, hd = headC bt := ⟨_, rfl⟩
    have eh : nb 1 106 ++ nb 1 (M : Nat) ++ nb 2 (N : Nat) ++ nb 4 (sn : Nat) = hd := by
      rw [hhd, headC, ← HN.out, ← HMM.out, HSN.out]
      simp only [List.append_assoc]
    rw [eh] at H24
    have hhl : hd.length ≤ 60 := by rw [hhd, headC_len]; omega
    have HHD := Hid.mk' hhd
    clear H23 eh hhd
    obtain ⟨l1, n1, c1⟩ := Holds.frzFacts (H24) hb1
    obtain ⟨l7, n7, c7, z7⟩ := Holds.facts (H24.swap)
    go_upto_region 15 with fail
    rw [HQ0.out]
    go_region_law (first | (go_simp; first | (go_at_call 118; refine (bytes_spec H24.drew (by omega)).mono ?_; rintro e w31 ⟨v31, rfl, H31⟩; obtain ⟨R32, le32, H32, hr32⟩ := H31.freezeRow; obtain ⟨lx, nx, cx⟩ := Holds.frzFacts H32 (le32.blk _ _ hb1); obtain ⟨l8, n8, c8, z8⟩ := Holds.facts H32.swap) | (go_at_call 142; refine (sseal_spec H32 (le32.blk _ _ hT2) hr32).mono ?_; rintro e w33 ⟨o33, rfl, H33⟩; obtain ⟨ao, co, rfl⟩ := H33.rowRd.form; rw [sealS_len hhl] at H33 ⊢; obtain ⟨l9, n9, c9, z9⟩ := Holds.facts H33.pick3; obtain ⟨_, _, er, _, lr, hcr, zr⟩ := H33.pick4.rowAt (by omega); simp only [Value.slice.injEq, Option.some.injEq, Addr.mk.injEq, and_true, true_and] at er; obtain ⟨rfl, rfl⟩ := er; have hcr0 := hcr 0 _ rfl; clear hcr)))
    all_goals
      have H34 := H33.pick4.rowSet 0 (.slice ao 64 co) (by omega)
      generalize (World.setCell ..) = w34 at H34 ⊢
      have H35 := H34.pick4
      clear l9 n9 c9 z9 lr zr hcr0 H33 H34 l7 n7 c7 z7 l1 n1 c1
      obtain ⟨l7, n7, c7, z7⟩ := Holds.facts (H35)
      go_wp2_with fail
      have e0 : bytesAll (((v00, []) : Value × List UInt8) :: qt) = star (rowB v00 []) (bytesAll qt) := rfl
      rw [e0] at H35
      have H36 : Holds w34 R32 (star (row tBytes 1 (.slice (some ⟨gr, 0, none⟩) G cv) G ((List.map Prod.fst (((v00, []) : Value × List UInt8) :: qt)).set 0 (.slice ao 64 co))) (star (star (rowB (.slice ao 64 co) (sealS hd)) (bytesAll qt)) L)) :=
        (H35.drop.ac (show _ = star (wr pw hd) (star (rowB v00 []) (star (row tBytes 1 (.slice (some ⟨gr, 0, none⟩) G cv) G ((List.map Prod.fst (((v00, []) : Value × List UInt8) :: qt)).set 0 (.slice ao 64 co))) (star (star (rowB (.slice ao 64 co) (sealS hd)) (bytesAll qt)) L))) by ac_rfl)).drop.drop
      obtain ⟨hDE, hPE⟩ := HFIN.out _ _ _ le32 (celly_star (celly_row _ _ _ _ _) (celly_star (celly_star (celly_row _ _ _ _ _) (celly_bytes _)) hcy)) H36
      rw [HQ0.out]
      refine noPanic_ret ?_
      refine ⟨by simp, .inl ⟨_, _, rfl, run_takeDeferred hDE, ?_⟩⟩
      refine ⟨_, results_tmp2 rfl _ _ _, _, (.slice ao 64 co, sealS hd) :: qt, rfl, ?_, ?_⟩
      · rw [List.map_cons, HQT.out, HHD.out, HBT.out, HN.out, HBT.out]
        unfold putC
        rw [List.cons.injEq]
        refine ⟨rfl, ?_⟩
        apply List.ext_getElem
        · simp
        · intro i h1 h2
          simp
      · have e1 : G = ((((.slice ao 64 co, sealS hd) : Value × List UInt8) :: qt)).length := by rw [HGG.out]; rfl
        show Holds _ R (star (row tBytes 1 (.slice (some ⟨gr, 0, none⟩) G cv) ((((.slice ao 64 co, sealS hd) : Value × List UInt8) :: qt)).length ((List.map Prod.fst (((v00, []) : Value × List UInt8) :: qt)).set 0 (.slice ao 64 co))) (star (star (rowB (.slice ao 64 co) (sealS hd)) (bytesAll qt)) L))
        rw [← e1]
        exact hPE.weaken leA
end Sh
/- entry.gather, changes. -/
set_option linter.unusedVariables false
set_option linter.unusedSimpArgs false
namespace Sh
open Go Go.RowKit Go.Proofs
attribute [local go_sem ↓] Go.wp_at_zero Go.wp_at_succ
set_option maxHeartbeats 1000000
set_option maxRecDepth 100000

def txt2 (b : List UInt8) : List UInt8 := (openP b).drop 2
def gathC (bs : List (List UInt8)) : List UInt8 := if bs.all openOk = true then bs.flatMap txt2 else []
theorem txt2_len (b : List UInt8) : (txt2 b).length ≤ 58 := by
  have := openP_len b
  rw [txt2, List.length_drop]; omega
theorem flat2_len (bs : List (List UInt8)) : (bs.flatMap txt2).length ≤ 58 * bs.length := by
  induction bs with
  | nil => simp
  | cons b bs ih => rw [List.flatMap_cons, List.length_append, List.length_cons]; have := txt2_len b; omega
theorem gathC_len (bs : List (List UInt8)) : (gathC bs).length ≤ 58 * bs.length := by
  unfold gathC
  split
  · exact flat2_len bs
  · simp
theorem gather_spec {w : World} {R : Snap} {L : Asrt} {pt : Nat} {v : Value} {ss : List (Value × List UInt8)} (H : Holds w R L) (hT : R.blk pt = some (.cells (rowC 256) tabT (0, 0))) (hr : RdBB R.cell? v ss) (hn : ss.length ≤ 1000) :
    Calls Try.prog 148 #[.pointer (some ⟨pt, 0, none⟩), v] w fun e w' => ∃ o, e = .returned o ∧ Holds w' R (star (rowB o (gathC (ss.map Prod.snd))) L) := by
  obtain ⟨a, c, rfl⟩ := hr.form
  obtain ⟨n, hnn⟩ : ∃ n, n = ss.length := ⟨_, rfl⟩
  obtain ⟨bs, hbs⟩ : ∃ bs, bs = ss.map Prod.snd := ⟨_, rfl⟩
  rw [← hbs]
  have HR := Hid.mk' hr
  have HN := Hid.mk' hnn
  have hbl : bs.length = n := by rw [hbs, List.length_map, hnn]
  have HBL := Hid.mk' hbl
  have HBS := Hid.mk' hbs
  rw [← hnn] at hn ⊢
  clear hr hnn hbl hbs
  go_enter Try.func148, Try.ntmps148
  go_wp2_with fail
  go_loopw [5, 12] (fun o i wx => ∃ j : Nat, i = .int .i64 j ∧ j ≤ n ∧ Hid (∀ k (h : k < bs.length), k < j → openOk bs[k] = true) ∧ Holds wx R (star (rowB o ((bs.take j).flatMap txt2)) L)) (fun _ i _ => n - (intOf i).toNat)
  case atStart => exact ⟨0, rfl, Nat.zero_le _, Hid.mk' (fun k _ h => absurd h (Nat.not_lt_zero k)), H.nilRow _ 1⟩
  case round =>
    obtain ⟨j, rfl, hj, hA, H3⟩ := hrel
    clear H
    by_cases hlt : j < n
    · have d1 : decide ((j : Int) < (n : Int)) = true := by simp; omega
      have hjl : j < ss.length := by rw [← HN.out]; exact hlt
      obtain ⟨b1, o1, ha, hc, hq⟩ := RdBB.at HR.out hjl
      subst ha
      have hc := H3.cell hc
      have hjb : j < bs.length := by rw [HBL.out]; exact hlt
      have hy0 : bs[j] = ss[j].2 := by simp [HBS.out]
      obtain ⟨y, hy⟩ : ∃ y, y = bs[j] := ⟨_, rfl⟩
      rw [← hy0, ← hy] at hq
      have HY := Hid.mk' hy
      obtain ⟨vj, hvj⟩ : ∃ vj, vj = ss[j].1 := ⟨_, rfl⟩
      rw [← hvj] at hc hq
      obtain ⟨aj, cj, rfl⟩ := hq.form
      have HQ := Hid.mk' hq
      have i1 : (0 : Int) ≤ (j : Int) := by omega
      have i2 : (j : Int) < (n : Int) := by omega
      clear hy0 hy hvj hq
      go_wp2_with fail
      refine (sopen_spec H3 hT HQ.out).mono ?_
      rintro e w4 ⟨o4, rfl, H4⟩
      cases hok : openOk y with
      | false =>
        have HOK := Hid.mk' hok
        clear hok H3
        go_wp2_with fail
        go_ret
        have hz : gathC bs = [] := by
          unfold gathC
          rw [if_neg]
          intro h
          have := List.all_eq_true.1 h _ (List.getElem_mem hjb)
          rw [← HY.out, HOK.out] at this
          cases this
        rw [hz]
        exact ⟨_, rfl, H4.drop2.drop.nilRow _ 1⟩
      | true =>
        have HOK := Hid.mk' hok
        obtain ⟨R5, le5, H5, hr5⟩ := H4.freezeRow
        obtain ⟨pl, hpl⟩ : ∃ pl, pl = openP y := ⟨_, rfl⟩
        have hl60 := openOk_len hok
        rw [← hpl] at hl60
        replace hr5 : RdB R5.cell? o4 pl := by rw [hpl]; exact hr5
        obtain ⟨a4, c4, rfl⟩ := hr5.form
        have hB1 : 60 ≤ c4 := by have := hr5.bounds; omega
        have hsub := RdB.sub hr5 2 60 c4 (by decide) (by omega) (by omega) (Nat.le_refl _)
        rw [List.take_of_length_le (by rw [List.length_drop]; omega)] at hsub
        have htx : pl.drop 2 = txt2 y := by rw [hpl]; rfl
        rw [htx] at hsub
        have hln : (List.flatMap txt2 (bs.take j)).length ≤ 58000 := by
          have h1 := flat2_len (bs.take j)
          have h2 : (bs.take j).length ≤ 1000 := by rw [List.length_take]; omega
          omega
        have hty := txt2_len y
        have HSUB := Hid.mk' hsub
        simp only [hl60]
        clear H3 H4 hok htx hpl hr5 hl60 hsub
        go_wp2_with (with_reducible refine stop_append ?_)
        refine Hold.go (wpList_appendB (l := List.flatMap txt2 (bs.take j)) (k := txt2 y) rfl _ _ rfl rfl rfl H5 (Rd.world HSUB.out H5) (by omega) ?_)
        intro v9 w9 H9
        go_wp2_with fail
        go_roundw
        case rel =>
          refine ⟨j + 1, by go_num, hlt, Hid.mk' (fun k h h2 => ?_), ?_⟩
          · rcases Nat.lt_or_ge k j with h3 | h3
            · exact hA.out k h h3
            · obtain rfl : k = j := by omega
              rw [← HY.out]; exact HOK.out
          · rw [List.take_succ_eq_append_getElem hjb, List.flatMap_append, List.flatMap_cons, List.flatMap_nil, List.append_nil, ← HY.out]
            exact H9.weaken le5
        case measure => simp [intOf]; omega
    · have d1 : decide ((j : Int) < (n : Int)) = false := by simp; omega
      obtain rfl : j = n := by omega
      have hz : gathC bs = bs.flatMap txt2 := by
        unfold gathC
        rw [if_pos]
        rw [List.all_eq_true]
        intro x hx
        obtain ⟨k, hk, rfl⟩ := List.mem_iff_getElem.1 hx
        exact hA.out k hk (by rw [← HBL.out]; exact hk)
      have HZ := Hid.mk' hz
      clear hz
      go_wp2_with fail
      go_ret
      rw [HZ.out]
      rw [List.take_of_length_le (by rw [HBL.out]; exact Nat.le_refl _)] at H3
      exact ⟨_, rfl, H3⟩

/-! ### The text, read -/
def chsP : Nat → PSt → List En → List En × PSt
  | 0, s, acc => (acc, s)
  | n + 1, s, acc => if s.2 = true then (acc, s) else
      if (pNum 1 (pNum 2 s).2).1 = 1 then chsP n (pRaw 64 (pNum 1 (pNum 2 s).2).2).2 (acc ++ [((((pNum 2 s).1 : Nat) : Int), (pRaw 64 (pNum 1 (pNum 2 s).2).2).1)])
      else chsP n (pNum 1 (pNum 2 s).2).2 (acc ++ [((((pNum 2 s).1 : Nat) : Int), [])])
theorem chsP_bad {n : Nat} {s : PSt} {acc : List En} (h : s.2 = true) : chsP n s acc = (acc, s) := by
  cases n with
  | zero => rfl
  | succ n => rw [chsP, if_pos h]
theorem chsP_raw {n : Nat} {s : PSt} {acc : List En} (h : s.2 = false) (h1 : (pNum 1 (pNum 2 s).2).1 = 1) : chsP (n + 1) s acc = chsP n (pRaw 64 (pNum 1 (pNum 2 s).2).2).2 (acc ++ [((((pNum 2 s).1 : Nat) : Int), (pRaw 64 (pNum 1 (pNum 2 s).2).2).1)]) := by
  rw [chsP, if_neg (by rw [h]; decide), if_pos h1]
theorem chsP_no {n : Nat} {s : PSt} {acc : List En} (h : s.2 = false) (h1 : (pNum 1 (pNum 2 s).2).1 ≠ 1) : chsP (n + 1) s acc = chsP n (pNum 1 (pNum 2 s).2).2 (acc ++ [((((pNum 2 s).1 : Nat) : Int), [])]) := by
  rw [chsP, if_neg (by rw [h]; decide), if_neg h1]
/-- How much is eaten. -/
def Eaten (B c : Nat) (s : PSt) : Prop := 3 * c ≤ B + 3 ∧ (s.2 = false → 3 * c + s.1.length ≤ B)
theorem cut_len {l : List UInt8} {bad : Bool} {n : Nat} (h : (!cutOk l bad n) = false) : bad = false ∧ (cutRest l bad n).length + n = l.length := by
  obtain ⟨h1, h2, _, h4⟩ := cut_false h
  refine ⟨h1, ?_⟩
  rw [h4, List.length_drop]; omega
theorem Eaten.num {B c : Nat} {s : PSt} (h : Eaten B c s) (hs : s.2 = false) : Eaten B (c + 1) (pNum 1 (pNum 2 s).2).2 := by
  have h1 := h.2 hs
  refine ⟨by omega, fun h2 => ?_⟩
  obtain ⟨h3, h4⟩ := cut_len (l := (pNum 2 s).2.1) (bad := (pNum 2 s).2.2) (n := 1) h2
  obtain ⟨h5, h6⟩ := cut_len (l := s.1) (bad := s.2) (n := 2) h3
  have h7 : (pNum 1 (pNum 2 s).2).2.1 = cutRest (pNum 2 s).2.1 (pNum 2 s).2.2 1 := rfl
  have h8 : (pNum 2 s).2.1 = cutRest s.1 s.2 2 := rfl
  rw [h7]; rw [h8] at h4
  rw [h8]; omega
theorem Eaten.raw {B c n : Nat} {s : PSt} (h : Eaten B c s) : Eaten B c (pRaw n s).2 := by
  refine ⟨h.1, fun h2 => ?_⟩
  obtain ⟨h3, h4⟩ := cut_len (l := s.1) (bad := s.2) (n := n) h2
  have h5 := h.2 h3
  have h7 : (pRaw n s).2.1 = cutRest s.1 s.2 n := rfl
  rw [h7]; omega
theorem pNum2_lt (s : PSt) : (pNum 2 s).1 < 65536 := by
  have h1 := valB_lt (cutOut s.1 s.2 2)
  have h2 : (cutOut s.1 s.2 2).length ≤ 2 := by
    unfold cutOut; split
    · rw [List.length_take]; omega
    · simp
  have h3 : 256 ^ (cutOut s.1 s.2 2).length ≤ 256 ^ 2 := Nat.pow_le_pow_right (by decide) h2
  show valB (cutOut s.1 s.2 2) < 65536
  omega
theorem cutOut_64 (l : List UInt8) (b : Bool) : (cutOut l b 64).length ≤ 64 := by
  unfold cutOut; split
  · rw [List.length_take]; omega
  · simp
theorem undChgs : Try.prog.underlying tChgs = some (.slice tChg) := Try.underlying93
theorem infoChg : (Try.prog.info? tChg).map (fun i => (i.zero, i.size, i.bytes)) = some (some (.agg #[.int .i64 0, .slice none 0 0]), 2, 32) := by kernel_rfl
end Sh
