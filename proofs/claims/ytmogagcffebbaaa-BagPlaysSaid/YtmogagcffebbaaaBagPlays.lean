/- BagPlays: the walk. -/
import Derived.Test.YtmogagcffebbaaaBagAlive
import Derived.Test.YtmogagcffebbaaaBagRef2
import Derived.Test.YtmogagcffebbaaaMsgFar
import Derived.Test.YtmogagcffebbaaaBagAct
set_option linter.unusedVariables false
set_option linter.unusedSimpArgs false
namespace Sh
open Go Go.RowKit Go.Proofs
attribute [local go_sem ↓] Go.wp_at_zero Go.wp_at_succ
set_option maxHeartbeats 1000000
set_option maxRecDepth 100000

structure BInv (W : World) (R : Snap) (l J : List Ms) (vb : Value) (j : Nat) : Prop where
  le : (Snap.of W).le R
  rdl : ∀ m ∈ l, m.Rd R.cell?
  con : l.map Ms.con = J.map Ms.con
  rdj : ∀ m ∈ J, m.Rd R.cell? ∧ m.Sz
  rd : Rd R.cell? 13 vb J.length (J.flatMap Ms.cells)
  n : l.length ≤ j
abbrev zeroM : Ms := ⟨0, 0, 0, 0, ⟨#[]⟩, 0, 0, 0, 0, 0, .slice none 0 0, .slice none 0 0, .slice none 0 0, [], [], []⟩
theorem zeroM_rd (c : Addr → Option Value) : zeroM.Rd c := ⟨Rd.nil, Rd.nil, RdB.nil⟩
theorem zeroM_sz : zeroM.Sz := ⟨by decide, by simp, by decide, by decide, by decide⟩
theorem filter_one {m : Ms} : ([m].filter msgOk).length ≤ 1 := by
  rw [List.filter_cons]; split <;> simp
theorem bagPlays_walk (W : World) {vl : Value} {l : List Act44} (hl : Rd W.cell? 15 vl l.length (l.flatMap Act44.cells)) (hg : ∀ a ∈ l, a.Good W.cell?) :
    Calls Try.prog 6 #[vl] W fun e w' => e = .returned (.bool true) ∧ Below W.heap.size W w' := by
  have hl0 := hl
  obtain ⟨al, cl, rfl⟩ := hl.form
  have hlS : Rd (Snap.of W).cell? 15 (.slice al l.length cl) l.length (l.flatMap Act44.cells) := hl0
  have hmx := hl.max
  unfold maxLen at hmx
  by_cases h1 : 60 < l.length
  · have t1 : decide ((60 : Int) < (l.length : Int)) = true := by simp; omega
    go_enter Try.func6, Try.ntmps6
    go_wp2_with fail
    refine (alive44 (Holds.start W)).mono ?_
    rintro e w2 ⟨rfl, H1⟩
    go_wp2_with fail
    go_ret
    exact ⟨rfl, H1.toBelow (Snap.le.refl _)⟩
  have t1 : decide ((60 : Int) < (l.length : Int)) = false := by simp; omega
  have hl9 : l.length ≤ 60 := by omega
  have H1 := (bag_new (Holds.start W)).alloc #[.slice none 0 0] tRB
  go_enter Try.func6, Try.ntmps6
  go_wp2_with fail
  generalize hw1 : World.alloc (World.alloc W _) _ = w1 at H1 ⊢
  simp only [World.size_alloc] at H1
  generalize W.heap.size + 1 = pb at H1 ⊢
  generalize hp : W.heap.size = p at H1 ⊢
  clear hw1 h1
  go_loopw [19] (fun i wx => ∃ (j : Nat) (R : Snap) (k J : List Ms) (vb : Value), i = .int .i64 j ∧ j ≤ l.length ∧ BInv W R k J vb j ∧ Holds wx R (star (blk pb #[vb] tRB) (star (bagA p k) emp))) (fun i _ => l.length - (intOf i).toNat)
  case atStart => exact ⟨0, Snap.of W, [], [], .slice none 0 0, rfl, Nat.zero_le _, ⟨Snap.le.refl _, by simp, rfl, by simp, Rd.nil, Nat.le_refl _⟩, H1⟩
  case round =>
    clear H1
    obtain ⟨j, R, k, J, vb, rfl, hj, hQ, H3⟩ := hrel
    by_cases hlt : j < l.length
    · obtain ⟨bl, ol, rfl, hx⟩ := rd_elt (f := Act44.cells) (fun _ => rfl) (Rd.world hlS (H3.weaken hQ.le)) (by decide) hlt
      have hgj := hg l[j] (List.getElem_mem hlt)
      generalize l[j] = x at hx hgj
      obtain ⟨xk, xn, xm⟩ := x
      obtain ⟨hm, hz1, hz2⟩ := hgj
      simp only at hm hz1 hz2
      have HM0 : Hid (xm.Rd (Snap.of W).cell?) := Hid.mk' hm
      have HZ := Hid.mk' (And.intro hz1 hz2)
      obtain ⟨kind, from_, to_, ballot, name, attempt, epoch, mark, size, what, vw, vn, vd, who, names, data⟩ := xm
      obtain ⟨hw, hn, hd⟩ := hm
      simp only at hw hn hd
      obtain ⟨aw, cw, rfl⟩ := hw.form
      obtain ⟨an, cn, rfl⟩ := hn.form
      obtain ⟨ad, cd, rfl⟩ := hd.form
      have a0 : wr.cell? ⟨bl, ol + j * 15, none⟩ = some (.int .i64 xk) := hx 0 _ (by omega) rfl
      have a1 : wr.cell? ⟨bl, ol + j * 15 + 1, none⟩ = some (.int .i64 xn) := hx 1 _ (by omega) rfl
      have m0 : wr.cell? ⟨bl, ol + j * 15 + 2, none⟩ = some (.int .i64 kind) := hx 2 _ (by omega) rfl
      have m1 : wr.cell? ⟨bl, ol + j * 15 + 3, none⟩ = some (.int .i64 from_) := hx 3 _ (by omega) rfl
      have m2 : wr.cell? ⟨bl, ol + j * 15 + 4, none⟩ = some (.int .i64 to_) := hx 4 _ (by omega) rfl
      have m3 : wr.cell? ⟨bl, ol + j * 15 + 5, none⟩ = some (.int .i64 ballot) := hx 5 _ (by omega) rfl
      have m4 : wr.cell? ⟨bl, ol + j * 15 + 6, none⟩ = some (.string name) := hx 6 _ (by omega) rfl
      have m5 : wr.cell? ⟨bl, ol + j * 15 + 7, none⟩ = some (.int .i64 attempt) := hx 7 _ (by omega) rfl
      have m6 : wr.cell? ⟨bl, ol + j * 15 + 8, none⟩ = some (.int .i64 epoch) := hx 8 _ (by omega) rfl
      have m7 : wr.cell? ⟨bl, ol + j * 15 + 9, none⟩ = some (.int .i64 mark) := hx 9 _ (by omega) rfl
      have m8 : wr.cell? ⟨bl, ol + j * 15 + 10, none⟩ = some (.int .i64 size) := hx 10 _ (by omega) rfl
      have m9 : wr.cell? ⟨bl, ol + j * 15 + 11, none⟩ = some (.int .i64 what) := hx 11 _ (by omega) rfl
      have m10 : wr.cell? ⟨bl, ol + j * 15 + 12, none⟩ = some (.slice aw who.length cw) := hx 12 _ (by omega) rfl
      have m11 : wr.cell? ⟨bl, ol + j * 15 + 13, none⟩ = some (.slice an names.length cn) := hx 13 _ (by omega) rfl
      have m12 : wr.cell? ⟨bl, ol + j * 15 + 14, none⟩ = some (.slice ad data.length cd) := hx 14 _ (by omega) rfl
      have HQI := Hid.mk' hQ
      clear hx hw hn hd hz1 hz2 hQ
      go_upto_region 8 with fail
      obtain ⟨R1, le1, H4, hba⟩ := H3.allocR (.cells #[.int .i64 xk, .int .i64 xn, .int .i64 kind, .int .i64 from_, .int .i64 to_, .int .i64 ballot, .string name, .int .i64 attempt, .int .i64 epoch, .int .i64 mark, .int .i64 size, .int .i64 what, .slice aw who.length cw, .slice an names.length cn, .slice ad data.length cd] 65 (0, 0))
      clear H3 a0 a1
      clear m0 m1 m2 m3 m4 m5 m6 m7 m8 m9 m10 m11 m12
      generalize (World.alloc ..) = w4 at H4 ⊢
      generalize wr.heap.size = ba at H4 hba ⊢
      have HM := Hid.mk' (HM0.out.le (HQI.out.le.trans le1))
      obtain ⟨l4, n4, c4⟩ := Holds.frzFacts (H4) hba
      go_wp2_with fail
      refine (far25_spec (⟨kind, from_, to_, ballot, name, attempt, epoch, mark, size, what, .slice aw who.length cw, .slice an names.length cn, .slice ad data.length cd, who, names, data⟩ : Ms) H4 HM.out HZ.out.1 HZ.out.2).mono ?_
      rintro e w5 ⟨b, rfl, hsm, H5⟩
      clear H4 l4 n4 c4
      cases b with
      | true =>
        go_wp2_with fail
        refine (alive44 H5).mono ?_
        rintro e w6 ⟨rfl, H6⟩
        go_wp2_with fail
        go_ret
        exact ⟨rfl, hp ▸ H6.toBelow (HQI.out.le.trans le1)⟩
      | false =>
      have HSZ : Hid (Ms.Sz (⟨kind, from_, to_, ballot, name, attempt, epoch, mark, size, what, .slice aw who.length cw, .slice an names.length cn, .slice ad data.length cd, who, names, data⟩ : Ms)) := Hid.mk' ((hsm rfl).Sz HZ.out.1 HZ.out.2)
      clear hsm
      obtain ⟨l5, n5, c5⟩ := Holds.frzFacts (H5) hba
      go_upto_block 2 with fail
      obtain ⟨q1, q2, q3, q4, q5, q6⟩ := HQI.out
      have hkJ : k.length = J.length := by have := congrArg List.length q3; simpa using this
      have HQ2 := Hid.mk' (fun m hm => (q2 m hm).le le1)
      have HQ3 := Hid.mk' q3
      have HQ4 := Hid.mk' (fun m (hm : m ∈ J) => (⟨(q4 m hm).1.le le1, (q4 m hm).2⟩ : m.Rd R1.cell? ∧ m.Sz))
      have HQ5 := Hid.mk' (q5.le le1)
      have HQZ := Hid.mk' (Sz_all q3 fun m hm => (q4 m hm).2)
      have hle1 := q1.trans le1
      obtain ⟨ab, cb, rfl⟩ := q5.form
      clear q2 q3 q4 q5 HQI HM0 q1 le1
      go_cut [] (fun wx => ∃ (R : Snap) (k J : List Ms) (vb : Value), BInv W R k J vb (j + 1) ∧ Holds wx R (star (blk pb #[vb] tRB) (star (bagA p k) emp)))
      case first =>
        by_cases k0 : xk = 0
        · subst k0
          have H6 := (H5.alloc #[.int .i64 kind, .int .i64 from_, .int .i64 to_, .int .i64 ballot, .string name, .int .i64 attempt, .int .i64 epoch, .int .i64 mark, .int .i64 size, .int .i64 what, .slice aw who.length cw, .slice an names.length cn, .slice ad data.length cd] tMsg).pick3
          go_wp2_with fail
          refine (bput_spec (k := [(⟨kind, from_, to_, ballot, name, attempt, epoch, mark, size, what, .slice aw who.length cw, .slice an names.length cn, .slice ad data.length cd, who, names, data⟩ : Ms)]) H6 HQ2.out (fun w' h => (h.toRow 13 1 1 (Nat.le_refl _) (by decide) rfl).rowRd) (fun m hm w' h => by rw [List.mem_singleton] at hm; subst hm; exact HM.out.world h) (fun m hm => by rw [List.mem_singleton] at hm; subst hm; exact HSZ.out) (by simp; omega)).mono ?_
          rintro e w7 ⟨rfl, R7, le7, k7, hk7, hc7, H7⟩
          have HK7 := Hid.mk' hk7
          have HC7 := Hid.mk' hc7
          have H8 := H7.swap.drop.swap
          clear H5 H6 H7 hk7 hc7 l5 n5 c5
          have hba7 := le7.blk _ _ hba
          obtain ⟨l8, n8, c8⟩ := Holds.frzFacts (H8) hba7
          obtain ⟨R9, le9, H9, hb9⟩ := (H8.alloc #[.int .i64 kind, .int .i64 from_, .int .i64 to_, .int .i64 ballot, .string name, .int .i64 attempt, .int .i64 epoch, .int .i64 mark, .int .i64 size, .int .i64 what, .slice aw who.length cw, .slice an names.length cn, .slice ad data.length cd] tMsg).freezeBlk
          go_wp2_with fail
          have hrk : Rd R9.cell? 13 (.slice (some ⟨w7.heap.size, 0, none⟩) 1 1) [(⟨kind, from_, to_, ballot, name, attempt, epoch, mark, size, what, .slice aw who.length cw, .slice an names.length cn, .slice ad data.length cd, who, names, data⟩ : Ms)].length ([(⟨kind, from_, to_, ballot, name, attempt, epoch, mark, size, what, .slice aw who.length cw, .slice an names.length cn, .slice ad data.length cd, who, names, data⟩ : Ms)].flatMap Ms.cells) := by
            refine ⟨_, _, rfl, Nat.le_refl _, by simp [maxLen], rfl, (fun e => by cases e), ?_⟩
            intro b' o' s e j u hu
            simp only [Option.some.injEq, Addr.mk.injEq] at e
            obtain ⟨rfl, rfl, rfl⟩ := e
            refine ⟨rfl, ?_⟩
            unfold Snap.cell?
            simp only [hb9, Nat.zero_add]
            simpa [Ms.cells] using hu
          refine (rbput_spec (k := [(⟨kind, from_, to_, ballot, name, attempt, epoch, mark, size, what, .slice aw who.length cw, .slice an names.length cn, .slice ad data.length cd, who, names, data⟩ : Ms)]) H9 (Rd.le HQ5.out (le7.trans le9)) (fun m hm => (HQ4.out m hm).1.le (le7.trans le9)) hrk (fun m hm => by rw [List.mem_singleton] at hm; subst hm; exact HM.out.le (le7.trans le9)) (fun m hm => by rw [List.mem_singleton] at hm; subst hm; exact HSZ.out) (by simp; omega)).mono ?_
          rintro e w10 ⟨rfl, R10, le10, v10, hr10, H10⟩
          have hf := filter_one (m := (⟨kind, from_, to_, ballot, name, attempt, epoch, mark, size, what, .slice aw who.length cw, .slice an names.length cn, .slice ad data.length cd, who, names, data⟩ : Ms))
          have hlen7 : k7.length ≤ j + 1 := by
            have := congrArg List.length HC7.out
            simp only [List.length_map, List.length_append] at this
            omega
          have leA := (le7.trans le9).trans le10
          go_wp2_with fail
          go_meet
          case rel =>
            refine ⟨R10, k7, J ++ [(⟨kind, from_, to_, ballot, name, attempt, epoch, mark, size, what, .slice aw who.length cw, .slice an names.length cn, .slice ad data.length cd, who, names, data⟩ : Ms)].filter msgOk, v10, ⟨hle1.trans leA, fun m hm => (HK7.out m hm).le (le9.trans le10), ?_, ?_, hr10, hlen7⟩, H10⟩
            · rw [HC7.out, List.map_append, HQ3.out]
            · intro m hm
              rcases List.mem_append.1 hm with h | h
              · exact ⟨(HQ4.out m h).1.le leA, (HQ4.out m h).2⟩
              · have h2 := (List.mem_filter.1 h).1
                rw [List.mem_singleton] at h2
                subst h2
                exact ⟨HM.out.le leA, HSZ.out⟩
        · have t0 : (xk == 0) = false := by simpa using k0
          by_cases k1 : xk = 1
          · subst k1
            by_cases hin : xn < 0 ∨ (J.length : Int) ≤ xn
            · go_wp2_with fail
              refine (btake_none H5.swap (by rw [hkJ]; exact hin)).mono ?_
              rintro e w7 ⟨rfl, H7⟩
              clear H5 l5 n5 c5
              have H8 := H7.alloc zeroMs tMsg
              obtain ⟨l8, n8, c8⟩ := Holds.frzFacts (H8) hba
              go_wp2_with fail
              refine (rbtake_none H8.pick3 hin).mono ?_
              rintro e w9 ⟨rfl, H9⟩
              have H10 := H9.alloc zeroMs tMsg
              clear H7 H8 l8 n8 c8
              obtain ⟨l10, n10, c10, z10⟩ := Holds.facts (H10)
              obtain ⟨l11, n11, c11, z11⟩ := Holds.facts (H10.pick3)
              go_wp2_with fail
              refine (same25_spec zeroM zeroM H10 (zeroM_rd _) zeroM_sz (zeroM_rd _) zeroM_sz).mono ?_
              rintro e w11 ⟨rfl, H11⟩
              rw [msSame_con (m := zeroM) rfl]
              go_wp2_with fail
              go_meet
              case rel => exact ⟨R1, k, J, _, ⟨hle1, HQ2.out, HQ3.out, HQ4.out, HQ5.out, by omega⟩, H11.drop.drop2⟩
            · obtain ⟨i, rfl⟩ : ∃ i : Nat, xn = (i : Int) := ⟨xn.toNat, by omega⟩
              have hiJ : i < J.length := by omega
              have hik : i < k.length := by omega
              have hcon : (k[i]).con = (J[i]).con := by
                have h := congrArg (fun q => q[i]?) HQ3.out
                simpa [hiJ, hik] using h
              have hki : k[i]? = some k[i] := List.getElem?_eq_getElem hik
              have hJi : J[i]? = some J[i] := List.getElem?_eq_getElem hiJ
              have hmk := HQ2.out k[i] (List.getElem_mem hik)
              have hmJ := HQ4.out J[i] (List.getElem_mem hiJ)
              have hsz := HQZ.out k[i] (List.getElem_mem hik)
              generalize k[i] = y at hcon hki hmk hsz
              generalize J[i] = z at hcon hJi hmJ
              have HMK := Hid.mk' hmk
              have HMJ := Hid.mk' hmJ
              have HSZ2 := Hid.mk' hsz
              have HCN := Hid.mk' hcon
              have HKI := Hid.mk' hki
              have HJI := Hid.mk' hJi
              clear HM HSZ hcon hki hJi hsz hin
              obtain ⟨hmJ1, _⟩ := hmJ
              go_wp2_with fail
              refine (btake_some H5.swap HQ2.out HKI.out (by omega)).mono ?_
              rintro e w7 ⟨rfl, H7⟩
              clear H5 l5 n5 c5
              obtain ⟨kind', from', to', ballot', name', attempt', epoch', mark', size', what', vw', vn', vd', who', names', data'⟩ := y
              obtain ⟨hw', hn', hd'⟩ := hmk
              simp only at hw' hn' hd'
              obtain ⟨aw', cw', rfl⟩ := hw'.form
              obtain ⟨an', cn', rfl⟩ := hn'.form
              obtain ⟨ad', cd', rfl⟩ := hd'.form
              have H8 := H7.alloc #[.int .i64 kind', .int .i64 from', .int .i64 to', .int .i64 ballot', .string name', .int .i64 attempt', .int .i64 epoch', .int .i64 mark', .int .i64 size', .int .i64 what', .slice aw' who'.length cw', .slice an' names'.length cn', .slice ad' data'.length cd'] tMsg
              obtain ⟨l8, n8, c8⟩ := Holds.frzFacts (H8) hba
              go_wp2_with fail
              refine (rbtake_some H8.pick3 HQ5.out (fun m hm => (HQ4.out m hm).1) HJI.out (by omega)).mono ?_
              rintro e w9 ⟨rfl, R9, le9, v9, hr9, H9⟩
              clear H7 H8 l8 n8 c8 hw' hn' hd'
              obtain ⟨kind2, from2, to2, ballot2, name2, attempt2, epoch2, mark2, size2, what2, vw2, vn2, vd2, who2, names2, data2⟩ := z
              obtain ⟨hw2, hn2, hd2⟩ := hmJ1
              simp only at hw2 hn2 hd2
              obtain ⟨aw2, cw2, rfl⟩ := hw2.form
              obtain ⟨an2, cn2, rfl⟩ := hn2.form
              obtain ⟨ad2, cd2, rfl⟩ := hd2.form
              have H10 := H9.alloc #[.int .i64 kind2, .int .i64 from2, .int .i64 to2, .int .i64 ballot2, .string name2, .int .i64 attempt2, .int .i64 epoch2, .int .i64 mark2, .int .i64 size2, .int .i64 what2, .slice aw2 who2.length cw2, .slice an2 names2.length cn2, .slice ad2 data2.length cd2] tMsg
              obtain ⟨l10, n10, c10, z10⟩ := Holds.facts (H10)
              obtain ⟨l11, n11, c11, z11⟩ := Holds.facts (H10.pick3)
              clear hw2 hn2 hd2
              go_wp2_with fail
              refine (same25_spec (⟨kind', from', to', ballot', name', attempt', epoch', mark', size', what', .slice aw' who'.length cw', .slice an' names'.length cn', .slice ad' data'.length cd', who', names', data'⟩ : Ms) ⟨kind2, from2, to2, ballot2, name2, attempt2, epoch2, mark2, size2, what2, .slice aw2 who2.length cw2, .slice an2 names2.length cn2, .slice ad2 data2.length cd2, who2, names2, data2⟩ H10 (HMK.out.le le9) HSZ2.out (HMJ.out.1.le le9) HMJ.out.2).mono ?_
              rintro e w11 ⟨rfl, H11⟩
              rw [msSame_con HCN.out]
              go_wp2_with fail
              go_meet
              case rel =>
                refine ⟨R9, k.take i ++ k.drop (i + 1), J.take i ++ J.drop (i + 1), v9, ⟨hle1.trans le9, ?_, ?_, ?_, hr9, ?_⟩, H11.drop.drop2⟩
                · intro m hm
                  rcases List.mem_append.1 hm with h | h
                  · exact (HQ2.out m (List.mem_of_mem_take h)).le le9
                  · exact (HQ2.out m (List.mem_of_mem_drop h)).le le9
                · rw [List.map_append, List.map_append, List.map_take, List.map_take, List.map_drop, List.map_drop, HQ3.out]
                · intro m hm
                  have h : m ∈ J := by
                    rcases List.mem_append.1 hm with h | h
                    · exact List.mem_of_mem_take h
                    · exact List.mem_of_mem_drop h
                  exact ⟨(HQ4.out m h).1.le le9, (HQ4.out m h).2⟩
                · rw [List.length_append, List.length_take, List.length_drop]; omega
          · have t1 : (xk == 1) = false := by simpa using k1
            by_cases hin : xn < 0 ∨ (J.length : Int) ≤ xn
            · go_wp2_with fail
              go_region_held3 (fun w' => (∀ o, w'.cell? ⟨ba, o, none⟩ = #[.int .i64 xk, .int .i64 xn, .int .i64 kind, .int .i64 from_, .int .i64 to_, .int .i64 ballot, .string name, .int .i64 attempt, .int .i64 epoch, .int .i64 mark, .int .i64 size, .int .i64 what, .slice aw who.length cw, .slice an names.length cn, .slice ad data.length cd][o]?)) (first | (exact H7.frz hba) | (exact H6.frz hba) | ((repeat' (first | assumption | (with_reducible refine And.intro ?_ ?_) | (with_reducible refine keep_drew ?_) | (with_reducible refine keep_drewN ?_) | (with_reducible refine keep_alloc ?_ (by first | assumption | (simp only [World.size_alloc, World.size_drew, World.size_setCell]; omega))) | (with_reducible refine keep_set ?_ (by first | assumption | omega))))))
                (first | (go_at_call 42; refine (bdouble_none H5.drew.swap (by rw [hkJ]; exact hin)).mono ?_; rintro e w6 ⟨rfl, H6⟩) | (go_at_call 43; refine (rbdouble_none H6.swap hin).mono ?_; rintro e w7 ⟨rfl, H7⟩))
              all_goals
                go_wp2_with fail
                go_meet
                case rel => exact ⟨R1, k, J, _, ⟨hle1, HQ2.out, HQ3.out, HQ4.out, HQ5.out, by omega⟩, H7⟩
            · obtain ⟨i, rfl⟩ : ∃ i : Nat, xn = (i : Int) := ⟨xn.toNat, by omega⟩
              have hiJ : i < J.length := by omega
              have hik : i < k.length := by omega
              have hcon : (k[i]).con = (J[i]).con := by
                have h := congrArg (fun q => q[i]?) HQ3.out
                simpa [hiJ, hik] using h
              have hki : k[i]? = some k[i] := List.getElem?_eq_getElem hik
              have hJi : J[i]? = some J[i] := List.getElem?_eq_getElem hiJ
              have hmJ := HQ4.out J[i] (List.getElem_mem hiJ)
              generalize k[i] = y at hcon hki
              generalize J[i] = z at hcon hJi hmJ
              have HMJ := Hid.mk' hmJ
              have HCN := Hid.mk' hcon
              have HKI := Hid.mk' hki
              have HJI := Hid.mk' hJi
              clear hcon hki hJi hmJ hin
              go_wp2_with fail
              go_region_held3 (fun w' => (∀ o, w'.cell? ⟨ba, o, none⟩ = #[.int .i64 xk, .int .i64 i, .int .i64 kind, .int .i64 from_, .int .i64 to_, .int .i64 ballot, .string name, .int .i64 attempt, .int .i64 epoch, .int .i64 mark, .int .i64 size, .int .i64 what, .slice aw who.length cw, .slice an names.length cn, .slice ad data.length cd][o]?)) (first | (exact H7.frz hba7) | (exact H6.frz hba6) | ((repeat' (first | assumption | (with_reducible refine And.intro ?_ ?_) | (with_reducible refine keep_drew ?_) | (with_reducible refine keep_drewN ?_) | (with_reducible refine keep_alloc ?_ (by first | assumption | (simp only [World.size_alloc, World.size_drew, World.size_setCell]; omega))) | (with_reducible refine keep_set ?_ (by first | assumption | omega))))))
                (first | (go_at_call 42; refine (bdouble_some H5.drew.swap HQ2.out HQZ.out HKI.out (by omega)).mono ?_; rintro e w6 ⟨rfl, R6, le6, k6, hk6, hc6, H6⟩; have hba6 := le6.blk _ _ hba) | (go_at_call 43; refine (rbdouble_some H6.swap (Rd.le HQ5.out le6) (fun m hm => (HQ4.out m hm).1.le le6) (fun m hm => (HQ4.out m hm).2) HJI.out (by omega)).mono ?_; rintro e w7 ⟨rfl, R7, le7, v7, hr7, H7⟩; have hba7 := le7.blk _ _ hba6))
              all_goals
                go_wp2_with fail
                go_meet
                case rel =>
                  have hf := filter_one (m := y)
                  have hcf : ([y].filter msgOk).map Ms.con = ([z].filter msgOk).map Ms.con := by
                    rw [List.filter_cons, List.filter_cons, msgOk_con HCN.out]
                    split
                    · simp [HCN.out]
                    · rfl
                  have hlen6 : k6.length ≤ j + 1 := by
                    have := congrArg List.length hc6
                    simp only [List.length_map, List.length_append] at this
                    omega
                  refine ⟨R7, k6, J ++ [z].filter msgOk, v7, ⟨(hle1.trans le6).trans le7, fun m hm => (hk6 m hm).le le7, ?_, ?_, hr7, hlen6⟩, H7⟩
                  · rw [hc6, List.map_append, HQ3.out, hcf]
                  · intro m hm
                    rcases List.mem_append.1 hm with h | h
                    · exact ⟨(HQ4.out m h).1.le (le6.trans le7), (HQ4.out m h).2⟩
                    · have h2 := (List.mem_filter.1 h).1
                      rw [List.mem_singleton] at h2
                      subst h2
                      exact ⟨HMJ.out.1.le (le6.trans le7), HMJ.out.2⟩
      case rest =>
        clear H5 l5 n5 c5 HQ2 HQ3 HQ4 HQ5 HQZ HM HSZ hba
        obtain ⟨R2, k2, J2, vb2, hQ2, H5⟩ := hcut
        have hkJ2 : k2.length = J2.length := by have := congrArg List.length hQ2.con; simpa using this
        obtain ⟨a2, c2, rfl⟩ := hQ2.rd.form
        have hk9 : k2.length ≤ 61 := by have := hQ2.n; omega
        have HQI := Hid.mk' hQ2
        have HZ2 := Hid.mk' (Sz_all hQ2.con fun m hm => (hQ2.rdj m hm).2)
        clear hQ2
        obtain ⟨l6, n6, c6, z6⟩ := Holds.facts (H5)
        go_wp2_with fail
        go_region_held3 (fun w' => (∀ o, w'.cell? ⟨pb, o, none⟩ = #[.slice a2 J2.length c2][o]?)) (first | (exact H8.blkCell) | (exact H7.blkCell) | ((repeat' (first | assumption | (with_reducible refine And.intro ?_ ?_) | (with_reducible refine keep_drew ?_) | (with_reducible refine keep_drewN ?_) | (with_reducible refine keep_alloc ?_ (by first | assumption | (simp only [World.size_alloc, World.size_drew, World.size_setCell]; omega))) | (with_reducible refine keep_set ?_ (by first | assumption | omega))))))
          (first | (go_at_call 44; refine (blen_spec H5.drew.swap).mono ?_; rintro e w6 ⟨rfl, rfl⟩; rw [hkJ2]) | (go_at_call 46; refine (ball_frz H5.drew.swap HQI.out.rdl HZ2.out (by omega)).mono ?_; rintro e w7 ⟨R7, le7, v7, M7, rfl, hc7, hM7, hr7, H7⟩; replace H7 := H7.swap; obtain ⟨a7, c7, rfl⟩ := hr7.form) | (go_at_call 45; refine (sameAll_spec H7 hr7 (Rd.le HQI.out.rd le7) (fun m hm => ⟨hM7 m hm, Sz_all hc7 HZ2.out m hm⟩) (fun m hm => ⟨(HQI.out.rdj m hm).1.le le7, (HQI.out.rdj m hm).2⟩) (hc7.trans HQI.out.con) (by have := congrArg List.length hc7; simp only [List.length_map] at this; omega)).mono ?_; rintro e w8 ⟨rfl, H8⟩))
        all_goals
          go_wp2_with fail
          go_roundw
          case rel => exact ⟨j + 1, R7, k2, J2, _, by go_num, hlt, ⟨HQI.out.le.trans le7, fun m hm => (HQI.out.rdl m hm).le le7, HQI.out.con, fun m hm => ⟨(HQI.out.rdj m hm).1.le le7, (HQI.out.rdj m hm).2⟩, Rd.le HQI.out.rd le7, HQI.out.n⟩, H8⟩
          case measure => simp [intOf]; omega
    · go_wp2_with fail
      refine (alive44 H3).mono ?_
      rintro e w4 ⟨rfl, H4⟩
      go_wp2_with fail
      go_ret
      exact ⟨rfl, hp ▸ H4.toBelow hQ.le⟩
end Sh
