/- JrnClean EntCheck MsgSize CrcRef: joined texts, each with its own sentence below. -/
import Derived.Test.YtmogagcffebbaaaJd7
import Derived.Test.YtmogagcffebbaaaJd6
import Derived.Maps.OwnSet
import Derived.Maps.OwnOps
import Derived.Maps.Own
import Derived.Test.YtmogagcffebbaaaJd5
/- journal.sectors, Clean. -/
set_option linter.unusedVariables false
set_option linter.unusedSimpArgs false
namespace Sh
open Go Go.RowKit Go.Proofs
attribute [local go_sem ↓] Go.wp_at_zero Go.wp_at_succ
set_option maxHeartbeats 1000000
set_option maxRecDepth 100000

/-- The journal's sectors. -/
def jS (S : List (List UInt8)) : List (List UInt8) := (S.drop 1).take 33
theorem jS_len (S : List (List UInt8)) : (jS S).length = min 33 (S.length - 1) := by rw [jS, List.length_take, List.length_drop]
theorem jsectors_spec {w : World} {R : Snap} {L : Asrt} {p : Nat} {st : DSt} (H : Holds w R (star (dA p st) L)) (hS : ∀ s ∈ st.1, s.length ≤ 1000000) (hl : st.1.length ≤ 1000) :
    Calls Try.prog 169 #[.pointer (some ⟨p, 0, none⟩)] w fun e w' => ∃ (R' : Snap) (o : Value) (q : List (Value × List UInt8)), R.le R' ∧ e = .returned o ∧ q.map Prod.snd = jS st.1 ∧ RdBB R'.cell? o q ∧ Holds w' R' (star (dA p st) L) := by
  obtain ⟨S, left, dead⟩ := st
  simp only at hS hl
  obtain ⟨N, hN⟩ : ∃ N, N = S.length := ⟨_, rfl⟩
  obtain ⟨m, hm⟩ : ∃ m, m = min 34 N := ⟨_, rfl⟩
  have hmin : min (34 : Int) (N : Int) = (m : Int) := by omega
  have HN := Hid.mk' hN
  have HS := Hid.mk' hS
  have HJ : Hid ((jS S).length + 1 = m ∨ N = 0) := Hid.mk' (by rw [jS_len]; omega)
  have hm34 : m ≤ 34 := by omega
  have hmN : m ≤ N := by omega
  have HSP : Hid (∀ w' (h : Holds w' R (star (row tBytes 1 (.slice none 0 0) 0 []) (star (diskS p S left dead) L))), True) := Hid.mk' (fun _ _ => trivial)
  clear hS hN hm
  go_enter Try.func169, Try.ntmps169
  go_wp2_with fail
  go_loopw [3, 4] (fun o i wx => ∃ (j k : Nat) (q : List (Value × List UInt8)), i = .int .i64 (k : Int) ∧ k = j + 1 ∧ (j = 0 ∨ k ≤ m) ∧ q.length = j ∧ Hid (q.map Prod.snd = (S.drop 1).take j) ∧ Holds wx R (star (row tBytes 1 o q.length (q.map Prod.fst)) (star (bytesAll q) (star (diskS p S left dead) L)))) (fun _ i _ => 40 - (intOf i).toNat)
  case atStart => exact ⟨0, 1, [], rfl, rfl, .inl rfl, rfl, Hid.mk' (by simp), by
    show Holds w R (star (row tBytes 1 (.slice none 0 0) 0 []) (star emp (star (diskS p S left dead) L)))
    rw [emp_star]
    exact H.nilRow _ 1⟩
  case round =>
    clear H
    obtain ⟨j, k, q, rfl, hk, hkm, hql, hq, H3⟩ := hrel
    have HK := Hid.mk' hk
    have HQL := Hid.mk' hql
    have HKM := Hid.mk' hkm
    have hj40 : q.length ≤ 40 := by omega
    clear hk hql hkm
    have hsz := size_spec (H3.pick3)
    rw [← HN.out] at hsz
    have HSZ := Hid.mk' hsz
    clear hsz
    by_cases hlt : k < m
    · have d1 : decide ((k : Int) < (m : Int)) = true := by simp; omega
      have d1n : decide (k < m) = true := by simp; omega
      go_wp2_with fail
      refine HSZ.out.mono ?_
      rintro e w4 ⟨rfl, rfl⟩
      go_wp2_with fail
      refine (dread_spec (i := (k : Nat)) H3.pick3 HS.out).mono ?_
      rintro e w5 ⟨o5, rfl, H5⟩
      rw [secAt_nat] at H5
      obtain ⟨s5, hs5⟩ : ∃ s, s = S.getD k [] := ⟨_, rfl⟩
      rw [← hs5] at H5
      have HS5 := Hid.mk' hs5
      obtain ⟨a5, c5, rfl⟩ := H5.rowRd.form
      clear hs5 H3
      go_wp2_with (with_reducible refine stop_append ?_)
      have H6 := H5.alloc #[.slice a5 s5.length c5] tBytes
      have hr6 : Rd _ 1 _ 1 _ := (H6.toRow 1 1 1 (Nat.le_refl _) (by simp [maxLen]) rfl).rowRd
      have H7 : Holds _ R (star (row tBytes 1 u3 q.length (q.map Prod.fst)) (star (bytesAll q) (star (rowB (.slice a5 s5.length c5) s5) (star (diskS p S left dead) L)))) := H6.drop.ac (by ac_rfl)
      refine Hold.go (wpList_append rfl _ _ rfl undSecs infoBytes rfl (by decide) rfl rfl H7 hr6 (by simp [Value.oneCell']) (by simp only [maxLen]; omega) (by omega) ?_)
      intro v8 w8 H8
      clear H5 H6 H7 hr6
      go_wp2_with fail
      go_roundw
      case rel =>
        refine ⟨j + 1, k + 1, q ++ [(.slice a5 s5.length c5, s5)], by go_num, by have := HK.out; omega, .inr hlt, by rw [List.length_append, HQL.out]; rfl, Hid.mk' ?_, ?_⟩
        · have hjl : j < (S.drop 1).length := by rw [List.length_drop, ← HN.out]; have := HK.out; omega
          rw [List.map_append, hq.out, List.take_succ_eq_append_getElem hjl]
          congr 1
          have h1 : (S.drop 1)[j] = S.getD k [] := by
            rw [List.getElem_drop, List.getD_eq_getElem?_getD, List.getElem?_eq_getElem (by rw [← HN.out]; omega)]
            have := HK.out
            simp only [Option.getD_some]
            congr 1
            omega
          rw [h1, ← HS5.out]; rfl
        · simp only [List.map_append, List.length_append, List.length_singleton, List.map_cons, List.map_nil, bytesAll_append, bytesAll_one]
          exact H8.ac (by ac_rfl)
      case measure => simp [intOf]; omega
    · have d1 : decide ((k : Int) < (m : Int)) = false := by simp; omega
      have d1n : decide (k < m) = false := by simp; omega
      have HJL : Hid ((S.drop 1).take j = jS S) := Hid.mk' (by
        rw [jS]
        have h1 := HK.out
        have h2 := HKM.out
        have h3 := HJ.out
        rw [jS_len, ← HN.out] at h3
        by_cases h4 : j = 33
        · rw [h4]
        · rw [List.take_of_length_le (by rw [List.length_drop, ← HN.out]; omega), List.take_of_length_le (by rw [List.length_drop, ← HN.out]; omega)])
      go_wp2_with fail
      refine HSZ.out.mono ?_
      rintro e w4 ⟨rfl, rfl⟩
      go_wp2_with fail
      go_ret
      obtain ⟨R5, le5, H5, hqq⟩ := freezeBB H3
      exact ⟨R5, _, q, le5, rfl, by rw [hq.out, HJL.out], hqq, H5⟩
def cleanS (S : List (List UInt8)) : Bool := (jS S).all clearB
theorem jclean_spec {w : World} {R : Snap} {L : Asrt} {p : Nat} {st : DSt} (H : Holds w R (star (dA p st) L)) (hS : ∀ s ∈ st.1, s.length ≤ 1000000) (hl : st.1.length ≤ 1000) :
    Calls Try.prog 100 #[.pointer (some ⟨p, 0, none⟩)] w fun e w' => e = .returned (.bool (cleanS st.1)) ∧ Holds w' R (star (dA p st) L) := by
  obtain ⟨y, hy⟩ : ∃ y, y = cleanS st.1 := ⟨_, rfl⟩
  rw [← hy]
  have HY := Hid.mk' hy
  clear hy
  go_enter Try.func100, Try.ntmps100
  go_wp2_with fail
  refine (jsectors_spec H hS hl).mono ?_
  rintro e w2 ⟨R2, o, q, le2, rfl, hq, hqq, H2⟩
  obtain ⟨a, c, rfl⟩ := hqq.form
  obtain ⟨n, hn⟩ : ∃ n, n = q.length := ⟨_, rfl⟩
  have hn9 : n ≤ 33 := by
    have h := congrArg List.length hq
    rw [List.length_map, jS_len] at h
    omega
  have HN := Hid.mk' hn
  have HQ := Hid.mk' hq
  have HQQ : Hid (RdBB R2.cell? (.slice a n c) q) := Hid.mk' (by rw [hn]; exact hqq)
  rw [← hn]
  clear H hn hq hqq
  go_wp2_with fail
  go_loopw [8] (fun i wx => ∃ (j : Nat), i = .int .i64 j ∧ j ≤ n ∧ Hid (((jS st.1).take j).all clearB = true) ∧ Holds wx R2 (star (dA p st) L)) (fun i _ => n - (intOf i).toNat)
  case atStart => exact ⟨0, rfl, Nat.zero_le _, Hid.mk' rfl, H2⟩
  case round =>
    clear H2
    obtain ⟨j, rfl, hj, hA, H3⟩ := hrel
    by_cases hlt : j < n
    · have d1 : decide ((j : Int) < (n : Int)) = true := by simp; omega
      have hjq : j < q.length := by rw [← HN.out]; exact hlt
      have hjS : j < (jS st.1).length := by rw [← HQ.out, List.length_map]; exact hjq
      have hqq' := HQQ.out
      rw [HN.out] at hqq'
      obtain ⟨b2, o2, ha2, hc2, hq2⟩ := RdBB.at hqq' hjq
      clear hqq'
      subst ha2
      replace hc2 := H3.cell hc2
      have gy : (jS st.1)[j] = q[j].2 := by simp only [← HQ.out, List.getElem_map]
      have HGY : Hid (∀ h : j < (jS st.1).length, (jS st.1)[j] = q[j].2) := Hid.mk' (fun _ => gy)
      have HJS := Hid.mk' hjS
      generalize q[j] = xy at *
      obtain ⟨vy, y2⟩ := xy
      simp only at hc2 hq2
      obtain ⟨ay, cy, rfl⟩ := hq2.form
      have HQ2 := Hid.mk' hq2
      have i1 : (0 : Int) ≤ (j : Int) := by omega
      have i2 : (j : Int) < (n : Int) := by omega
      clear hq2 gy hjS hjq
      go_wp2_with fail
      refine (sclear_spec H3 (Rd.world HQ2.out H3)).mono ?_
      rintro e w4 ⟨rfl, H4⟩
      obtain ⟨cl, hcl⟩ : ∃ b, clearB y2 = b := ⟨_, rfl⟩
      rw [hcl]
      have HCL := Hid.mk' hcl
      clear H3 hc2 hcl
      cases cl with
      | true =>
        go_wp2_with fail
        go_roundw
        case rel => exact ⟨j + 1, by go_num, hlt, Hid.mk' (by rw [List.take_succ_eq_append_getElem HJS.out, List.all_append, hA.out, HGY.out]; simp [HCL.out]), H4⟩
        case measure => simp [intOf]; omega
      | false =>
        have HYY : Hid (y = false) := Hid.mk' (by rw [HY.out, cleanS, all_not' HJS.out (by rw [HGY.out]; exact HCL.out)])
        go_wp2_with fail
        go_ret
        exact ⟨ret_bool HYY.out.symm, H4.weaken le2⟩
    · have d1 : decide ((j : Int) < (n : Int)) = false := by simp; omega
      obtain rfl : j = n := by omega
      have HYY : Hid (y = true) := Hid.mk' (by
        rw [HY.out, cleanS]
        have h := hA.out
        rwa [List.take_of_length_le (by rw [← HQ.out, List.length_map, ← HN.out]; exact Nat.le_refl _)] at h)
      go_wp2_with fail
      go_ret
      exact ⟨ret_bool HYY.out.symm, H3.weaken le2⟩
theorem jclean_nil {w : World} {R : Snap} {L : Asrt} (H : Holds w R L) : Calls Try.prog 100 #[.pointer none] w fun e w' => e = .returned (.bool false) ∧ Holds w' R L := by
  have hs : Calls Try.prog 169 #[.pointer none] w fun e w' => e = .returned (.slice none 0 0) ∧ w = w' := by
    go_enter Try.func169, Try.ntmps169
    go_wp2_with fail
    go_loop [3, 4] (fun o i => o = .slice none 0 0 ∧ i = .int .i64 1) (fun _ i => 0)
    case atStart => exact ⟨rfl, rfl⟩
    case round =>
      obtain ⟨rfl, rfl⟩ := hrel
      go_wp2_with fail
      refine dsize_nil.mono ?_
      rintro e w4 ⟨rfl, rfl⟩
      go_wp2_with fail
      go_ret
      exact ⟨rfl, rfl⟩
  go_enter Try.func100, Try.ntmps100
  go_wp2_with fail
  refine hs.mono ?_
  rintro e w4 ⟨rfl, rfl⟩
  go_wp2_with fail
  go_loop [8] (fun i => i = .int .i64 0) (fun i => 0)
  case atStart => rfl
  case round =>
    subst hrel
    go_wp2_with fail
    go_ret
    exact ⟨rfl, H⟩
end Sh
/- entry.place, size, Most, Check. -/
set_option linter.unusedVariables false
set_option linter.unusedSimpArgs false
namespace Sh
open Go Go.RowKit Go.Proofs
attribute [local go_sem ↓] Go.wp_at_zero Go.wp_at_succ
set_option maxHeartbeats 1000000
set_option maxRecDepth 100000

/-! ### A map of whole numbers that is owned -/
abbrev tIntM : TypeId := 3
abbrev tMapM : TypeId := 176
theorem undMapM : Try.prog.underlying tMapM = some (.map tIntM tIntM) := Try.underlying176
theorem lawM : Maps.Keyed Try.prog tIntM := Maps.int_keyed Try.underlying3
theorem zeroM (w : World) : (zeroValue tIntM).run Try.prog w = .ok (.int .i64 0) w := by kernel_rfl
noncomputable abbrev ElM : Value → Option (DataW Unit × List MemPlace) := plainElem Try.prog tIntM
def mapA (b n : Nat) (D : DataW Unit) : Asrt where
  on h F := (∃ es clock, h b = some (.map es clock) ∧ WideElems.Fit Try.prog tIntM ElM es clock ∧ es.size ≤ n ∧ D = .map ((es.toList.map (WideElems.rg Try.prog tIntM ElM)).foldr DataW.insert [])) ∧ ∀ i, F i ↔ i = b
  loc := fun ⟨⟨es, c, a, r⟩, e⟩ k => ⟨⟨es, c, (k b ((e b).2 rfl)).trans a, r⟩, e⟩
  bd := fun ⟨⟨es, c, a, r⟩, e⟩ i hi => by rw [(e i).1 hi, a]; rfl
theorem Holds.ownsM {w : World} {R : Snap} {L : Asrt} {b n : Nat} {D : DataW Unit} (H : Holds w R (star (mapA b n D) L)) : w.ownsMap Try.prog tIntM ElM b n D := by
  obtain ⟨F, ⟨⟨es, c, a, r⟩, e⟩, _⟩ := H.upd
  exact ⟨es, c, a, r⟩
theorem Holds.updM {w w' : World} {R : Snap} {L : Asrt} {b n n' : Nat} {D D' : DataW Unit} (H : Holds w R (star (mapA b n D) L)) (ho : w'.ownsMap Try.prog tIntM ElM b n' D') (hg : w.grownBy w' (some b)) : Holds w' R (star (mapA b n' D') L) := by
  obtain ⟨F, ⟨_, e⟩, k⟩ := H.upd
  obtain ⟨es, c, a, r⟩ := ho
  exact k w' _ F ⟨⟨es, c, a, r⟩, e⟩ hg.os hg.tape hg.output (fun i hi hn => hg.block i hi (fun h => hn ((e i).2 (Option.some.inj h)))) (fun i hi => .inl hi)
theorem Holds.makeM {w : World} {R : Snap} {L : Asrt} (H : Holds w R L) : Holds (w.alloc (.map #[] 0)) R (star (mapA w.heap.size 0 (.map [])) L) := by
  obtain ⟨es, c, a, r⟩ := World.ownsMap_made w Try.prog tIntM ElM
  exact H.fresh (A := mapA w.heap.size 0 (.map [])) (F' := (· = w.heap.size)) ((Below.refl _ _).alloc (Nat.le_refl _) _) ⟨⟨es, c, a, r⟩, fun _ => Iff.rfl⟩ (fun i hi => Nat.le_of_eq (Eq.symm hi))
/-- What the map's keys are: just those of a list. -/
def KeysM (D : DataW Unit) (l : List Int) : Prop := Maps.Tidy D ∧ (∀ x, Maps.has D (.int .i64 x) = decide (x ∈ l)) ∧ Maps.size D = dc l
theorem KeysM.nil : KeysM (.map []) [] := ⟨Maps.tidy_empty, fun x => rfl, rfl⟩
theorem KeysM.put {D : DataW Unit} {l : List Int} (h : KeysM D l) (x : Int) (d : DataW Unit) : KeysM (D.put (.int .i64 x) d) (x :: l) := by
  obtain ⟨h1, h2, h3⟩ := h
  refine ⟨h1.put (show WideAt.IsKeyLit (.int .i64 x) from trivial) d, fun y => ?_, ?_⟩
  · by_cases hy : y = x
    · subst hy
      rw [Maps.has_put_same h1.isMap (show WideAt.IsKeyLit (.int .i64 y) from trivial)]
      simp
    · rw [Maps.has_put_other (fun h => hy (by injection h)), h2]
      simp [hy]
  · rw [Maps.size_put h1, h2, h3, dc]
    by_cases hx : x ∈ l <;> simp [hx]

theorem place_spec (a : Int) (w : World) : Calls Try.prog 145 #[.int .i64 a] w fun e w' => e = .returned (.bool (placeC a)) ∧ w = w' := by
  by_cases h0 : a = 0
  · subst h0
    go_enter Try.func145, Try.ntmps145
    go_wp2_with fail
    go_ret
    exact ⟨rfl, rfl⟩
  · have t0 : (a == 0) = false := by rw [beq_eq_false_iff_ne]; exact h0
    have HA : Hid (placeC a = (decide (34 ≤ a) && decide (a ≤ 511))) := Hid.mk' (by simp [placeC, h0])
    by_cases h1 : 34 ≤ a
    · have t1 : decide (34 ≤ a) = true := by simpa using h1
      by_cases h2 : a < 512
      · have t2 : decide (a < 512) = true := by simpa using h2
        go_enter Try.func145, Try.ntmps145
        go_wp2_with fail
        go_ret
        exact ⟨ret_bool (by rw [HA.out, t1, decide_eq_true (by omega)]; rfl), rfl⟩
      · have t2 : decide (a < 512) = false := by simp; omega
        go_enter Try.func145, Try.ntmps145
        go_wp2_with fail
        go_ret
        exact ⟨ret_bool (by rw [HA.out, t1, decide_eq_false (by omega)]; rfl), rfl⟩
    · have t1 : decide (34 ≤ a) = false := by simp; omega
      go_enter Try.func145, Try.ntmps145
      go_wp2_with fail
      go_ret
      exact ⟨ret_bool (by rw [HA.out, t1]; rfl), rfl⟩
theorem most_spec (w : World) : Calls Try.prog 139 #[] w fun e w' => e = .returned (.int .i64 32) ∧ w = w' := by
  go_enter Try.func139, Try.ntmps139
  go_wp2_with fail
  go_ret
  exact ⟨rfl, rfl⟩
theorem esize_spec {w : World} {R : Snap} {L : Asrt} {v : Value} {cs : List Ch} (H : Holds w R L) (hr : RdC R.cell? v cs) (hz : SzC cs) :
    Calls Try.prog 146 #[v] w fun e w' => e = .returned (.int .i64 (sizeC (conC cs) : Nat)) ∧ Holds w' R L := by
  obtain ⟨a, c, rfl⟩ := hr.form
  obtain ⟨n, hn⟩ : ∃ n, n = cs.length := ⟨_, rfl⟩
  have HR := Hid.mk' hr
  have HN := Hid.mk' hn
  have HZ := Hid.mk' hz
  have hn9 : n ≤ 1000 := by rw [hn]; exact hz.1
  obtain ⟨S, hS⟩ : ∃ S : Nat → Nat, S = fun j => sizeC ((conC cs).take j) := ⟨_, rfl⟩
  have HS9 : Hid (∀ j, S j ≤ 10010000) := Hid.mk' (fun j => by
    have h1 := sizeC_le cs hz j
    have h2 := hz.1
    rw [hS]; show sizeC ((conC cs).take j) ≤ _
    omega)
  have HSS : Hid (∀ j (h : j < cs.length), S (j + 1) = S j + (3 + cs[j].data.length)) := Hid.mk' (fun j h => by
    rw [hS]; show sizeC ((conC cs).take (j + 1)) = _
    rw [sizeC_take (by rw [conC_len]; exact h)]
    simp [conC])
  have HS0 : Hid (S 0 = 2) := Hid.mk' (by rw [hS]; rfl)
  have HSN : Hid (S n = sizeC (conC cs)) := Hid.mk' (by rw [hS, hn, ← conC_len]; show sizeC ((conC cs).take _) = _; rw [List.take_length])
  rw [← HSN.out, ← hn]
  clear hr hn hz hS
  go_enter Try.func146, Try.ntmps146
  go_wp2_with fail
  go_loopw [3, 8] (fun s i wx => ∃ (j k : Nat), i = .int .i64 j ∧ j ≤ n ∧ s = .int .i64 (k : Int) ∧ k = S j ∧ Holds wx R L) (fun _ i _ => n - (intOf i).toNat)
  case atStart => exact ⟨0, 2, rfl, Nat.zero_le _, rfl, HS0.out.symm, H⟩
  case round =>
    clear H
    obtain ⟨j, k, rfl, hj, rfl, hk, H3⟩ := hrel
    by_cases hlt : j < n
    · have d1 : decide ((j : Int) < (n : Int)) = true := by simp; omega
      have hjs : j < cs.length := by rw [← HN.out]; exact hlt
      obtain ⟨b2, o2, rfl, hc0, hc1, hq⟩ := RdC.at HR.out hjs
      have hss := HSS.out j hjs
      have h9 := HS9.out (j + 1)
      have hd := HZ.out.2 _ (List.getElem_mem hjs)
      generalize cs[j] = x at *
      obtain ⟨xa, xv, xd⟩ := x
      simp only at hc0 hc1 hq hss hd
      obtain ⟨ax, cx, rfl⟩ := hq.form
      obtain ⟨l, hl⟩ : ∃ l, l = xd.length := ⟨_, rfl⟩
      rw [← hl] at hc1 hss hd
      replace hc0 := H3.cell hc0
      replace hc1 := H3.cell hc1
      have i1 : (0 : Int) ≤ (j : Int) := by omega
      have i2 : (j : Int) < (n : Int) := by omega
      obtain ⟨k2, hk2⟩ : ∃ k2, k2 = S (j + 1) := ⟨_, rfl⟩
      have e1 : (k : Int) + (3 + (l : Int)) = (k2 : Int) := by omega
      have HK2 := Hid.mk' hk2
      rw [← hk2] at h9
      have H4 := H3.garbage (.cells #[.int .i64 xa, .slice ax l cx] tChg)
      clear hq hss hl hk2 hk
      go_wp2_with fail
      go_roundw
      case rel => exact ⟨j + 1, k2, by go_num, hlt, rfl, HK2.out, H4⟩
      case measure => simp [intOf]; omega
    · have d1 : decide ((j : Int) < (n : Int)) = false := by simp; omega
      obtain rfl : j = n := by omega
      have HK := Hid.mk' hk
      clear hk
      go_wp2_with fail
      go_ret
      exact ⟨by rw [← HK.out]; rfl, H3⟩

theorem stop_any {p : Prop} (h : Hold p) : p := h
theorem all_take_step {α : Type} {p : α → Bool} {l : List α} {j : Nat} (h : j < l.length) (ha : (l.take j).all p = true) (hx : p l[j] = true) : (l.take (j + 1)).all p = true := by
  rw [List.take_succ_eq_append_getElem h, List.all_append, ha]; simp [hx]
theorem all_not {α : Type} {p : α → Bool} {l : List α} {j : Nat} (h : j < l.length) (hx : p l[j] = false) : l.all p = false := by
  rw [List.all_eq_false]
  exact ⟨l[j], List.getElem_mem h, by rw [hx]; decide⟩
set_option maxHeartbeats 4000000
theorem check_spec {w : World} {R : Snap} {L : Asrt} {v : Value} {cs : List Ch} (H : Holds w R L) (hr : RdC R.cell? v cs) (hz : SzC cs) :
    Calls Try.prog 65 #[v] w fun e w' => e = .returned (.int .i64 (checkC (conC cs))) ∧ Holds w' R L := by
  obtain ⟨a, c, rfl⟩ := hr.form
  obtain ⟨n, hn⟩ : ∃ n, n = cs.length := ⟨_, rfl⟩
  obtain ⟨K, hK⟩ : ∃ K, K = checkC (conC cs) := ⟨_, rfl⟩
  obtain ⟨E, hE⟩ : ∃ E, E = conC cs := ⟨_, rfl⟩
  have HR := Hid.mk' hr
  have HN := Hid.mk' hn
  have HZ := Hid.mk' hz
  have HE := Hid.mk' hE
  have hn9 : n ≤ 1000 := by rw [hn]; exact hz.1
  have HEL : Hid (E.length = n) := Hid.mk' (by rw [hE, conC_len, hn])
  have HEG : Hid (∀ j (h : j < cs.length) (h2 : j < E.length), E[j] = (cs[j].at_, cs[j].data)) := Hid.mk' (fun j h h2 => by
    have := conC_get h
    rw [← hE, List.getElem?_eq_getElem h2] at this
    exact Option.some.inj this)
  rw [← hK]
  rw [← hE] at hK
  have HK := Hid.mk' hK
  rw [← hn]
  clear hr hn hz hE hK
  have hmm := @run_makeMap Try.prog
  go_enter Try.func65, Try.ntmps65
  go_upto_region 2 with fail
  have H1 := H.makeM
  generalize (World.alloc ..) = w1 at H1 ⊢
  generalize w.heap.size = b at H1 ⊢
  clear H hmm
  go_wp2_with fail
  go_loopw [11] (fun i wx => ∃ (j : Nat) (D : DataW Unit), i = .int .i64 j ∧ j ≤ n ∧ Hid ((E.take j).all (fun c => placeC c.1) = true) ∧ Hid (KeysM D ((E.take j).map Prod.fst).reverse) ∧ Holds wx R (star (mapA b j D) L)) (fun i _ => n - (intOf i).toNat)
  case atStart => exact ⟨0, _, rfl, Nat.zero_le _, Hid.mk' rfl, Hid.mk' KeysM.nil, H1⟩
  case round =>
    clear H1
    obtain ⟨j, D, rfl, hj, hA, hD, H3⟩ := hrel
    by_cases hlt : j < n
    · have d1 : decide ((j : Int) < (n : Int)) = true := by simp; omega
      have hjs : j < cs.length := by rw [← HN.out]; exact hlt
      have hjE : j < E.length := by rw [HEL.out]; exact hlt
      obtain ⟨b2, o2, rfl, hc0, hc1, hq⟩ := RdC.at HR.out hjs
      have he := HEG.out j hjs hjE
      have HJE := Hid.mk' hjE
      generalize cs[j] = x at *
      obtain ⟨xa, xv, xd⟩ := x
      simp only at hc0 hc1 hq he
      obtain ⟨ax, cx, rfl⟩ := hq.form
      obtain ⟨l, hl⟩ : ∃ l, l = xd.length := ⟨_, rfl⟩
      rw [← hl] at hc1
      replace hc0 := H3.cell hc0
      replace hc1 := H3.cell hc1
      have i1 : (0 : Int) ≤ (j : Int) := by omega
      have i2 : (j : Int) < (n : Int) := by omega
      have HE2 : Hid (∀ h : j < E.length, E[j] = (xa, xd)) := Hid.mk' (fun _ => he)
      have H4 := H3.garbage (.cells #[.int .i64 xa, .slice ax l cx] tChg)
      clear hq hl hjE he hjs
      go_wp2_with fail
      refine (place_spec xa _).mono ?_
      rintro e w5 ⟨rfl, rfl⟩
      cases hp : placeC xa with
      | false =>
        have HKK : Hid (K = 2) := Hid.mk' (by rw [HK.out, checkC, all_not HJE.out (by rw [HE2.out]; exact hp)]; rfl)
        clear hp
        go_wp2_with fail
        go_ret
        exact ⟨by rw [HKK.out]; rfl, H4.drop⟩
      | true =>
        have HP := Hid.mk' hp
        have hwf : (Lit.int .i64 xa).wf = true := by
          simp [placeC] at hp
          show (decide _ && decide _) = true
          simp [IntKind.min, IntKind.max, IntKind.signed, IntKind.bits]
          omega
        have HWF := Hid.mk' hwf
        have hown := H4.ownsM
        clear hp hwf
        go_wp2_with (first | (at_lookup; refine wpList_lookup_own_int _ rfl _ _ tMapM rfl tIntM tIntM .i64 lawM undMapM Try.underlying3 (zeroM _) b j _ rfl hown _ _ rfl (Maps.keyOf_int_mk Try.underlying3 HWF.out) ?_; intro c hat hwc) | (at_mapUpdate; refine wpList_mapUpdate_own _ rfl _ _ _ tMapM rfl tIntM tIntM lawM undMapM ElM b j _ rfl hown (by unfold maxLen; omega) _ _ _ rfl rfl (Maps.keyOf_int_mk Try.underlying3 HWF.out) _ [] (plainElem_int Try.underlying3 (wrap64_wf _)) ?_; intro w7 hown7 hgrow7))
        have H5 := H4.updM hown7 hgrow7
        clear hown hown7 hgrow7 H4 hat hwc hc0 hc1
        go_wp2_with fail
        go_roundw
        case rel =>
          refine ⟨j + 1, _, by go_num, hlt, Hid.mk' (all_take_step HJE.out hA.out (by rw [HE2.out]; exact HP.out)), Hid.mk' ?_, H5⟩
          rw [List.take_succ_eq_append_getElem HJE.out, List.map_append, List.reverse_append, HE2.out]
          exact hD.out.put xa _
        case measure => simp [intOf]; omega
    · have d1 : decide ((j : Int) < (n : Int)) = false := by simp; omega
      obtain rfl : j = n := by omega
      have hA' : E.all (fun c => placeC c.1) = true := by have := hA.out; rwa [List.take_of_length_le (by rw [HEL.out]; exact Nat.le_refl _)] at this
      have hD' := hD.out
      rw [List.take_of_length_le (by rw [HEL.out]; exact Nat.le_refl _)] at hD'
      have HA := Hid.mk' hA'
      obtain ⟨s, hs⟩ : ∃ s, s = Maps.size D := ⟨_, rfl⟩
      have hs2 : s = dc (E.map Prod.fst).reverse := by rw [hs, hD'.2.2]
      have hsl := dc_le (E.map Prod.fst).reverse
      rw [← hs2, List.length_reverse, List.length_map, HEL.out] at hsl
      have HS : Hid (s = j ↔ (E.map Prod.fst).Nodup) := Hid.mk' (by
        have h := dc_eq (E.map Prod.fst).reverse
        rw [← hs2, List.length_reverse, List.length_map, HEL.out] at h
        exact h.trans (List.reverse_perm _).nodup_iff)
      have hown := H3.ownsM
      clear hA hA' hD hD' hs2
      go_upto_region 9 with fail
      go_wp2_with (at_len; refine wpList_len_own _ rfl _ tMapM rfl tIntM tIntM undMapM ElM b j D rfl hown ?_; refine stop_any ?_)
      refine Hold.go ?_
      clear hown
      have HSD := Hid.mk' hs
      clear hs
      have H4 := H3.drop
      clear H3
      by_cases hsj : s = j
      · have t1 : (((Maps.size D : Nat) : Int) != (j : Int)) = false := by rw [← HSD.out]; simp; omega
        have HND := Hid.mk' (HS.out.1 hsj)
        clear hsj
        go_wp2_with fail
        go_loopw [32] (fun i wx => ∃ (k : Nat), i = .int .i64 k ∧ k ≤ j ∧ Hid ((E.take k).all (fun c => formC c.2) = true) ∧ Holds wx R L) (fun i _ => j - (intOf i).toNat)
        case atStart => exact ⟨0, rfl, Nat.zero_le _, Hid.mk' rfl, H4⟩
        case round =>
          clear H4
          obtain ⟨k, rfl, hk, hF, H5⟩ := hrel
          by_cases hlt : k < j
          · have d2 : decide ((k : Int) < (j : Int)) = true := by simp; omega
            have hjs : k < cs.length := by rw [← HN.out]; exact hlt
            have hjE : k < E.length := by rw [HEL.out]; exact hlt
            obtain ⟨b2, o2, rfl, hc0, hc1, hq⟩ := RdC.at HR.out hjs
            have he := HEG.out k hjs hjE
            have HJE := Hid.mk' hjE
            generalize cs[k] = x at *
            obtain ⟨xa, xv, xd⟩ := x
            simp only at hc0 hc1 hq he
            obtain ⟨ax, cx, rfl⟩ := hq.form
            obtain ⟨l, hl⟩ : ∃ l, l = xd.length := ⟨_, rfl⟩
            rw [← hl] at hc1
            replace hc0 := H5.cell hc0
            replace hc1 := H5.cell hc1
            have i1 : (0 : Int) ≤ (k : Int) := by omega
            have i2 : (k : Int) < (j : Int) := by omega
            have HE2 : Hid (∀ h : k < E.length, E[k] = (xa, xd)) := Hid.mk' (fun _ => he)
            have HL := Hid.mk' hl
            have hlm := Rd.max hq
            rw [← hl] at hlm
            unfold maxLen at hlm
            have H6 := H5.garbage (.cells #[.int .i64 xa, .slice ax l cx] tChg)
            clear hq hl hjE he hjs
            by_cases h0 : l = 0
            · have t2 : ((l : Int) != 0) = false := by simp; omega
              have HFX : Hid (formC xd = true) := Hid.mk' (by simp [formC, ← HL.out, h0])
              clear h0
              go_wp2_with fail
              go_roundw
              case rel => exact ⟨k + 1, by go_num, hlt, Hid.mk' (all_take_step HJE.out hF.out (by rw [HE2.out]; exact HFX.out)), H6⟩
              case measure => simp [intOf]; omega
            · have t2 : ((l : Int) != 0) = true := by simp; omega
              by_cases h64 : l = 64
              · have t3 : ((l : Int) != 64) = false := by simp; omega
                have HFX : Hid (formC xd = true) := Hid.mk' (by simp [formC, ← HL.out, h64])
                have H64 := Hid.mk' h64
                clear h0 h64
                go_wp2_with fail
                go_roundw
                case rel => exact ⟨k + 1, by go_num, hlt, Hid.mk' (all_take_step HJE.out hF.out (by rw [HE2.out]; exact HFX.out)), H6⟩
                case measure => simp [intOf]; omega
              · have t3 : ((l : Int) != 64) = true := by simp; omega
                have HKK : Hid (K = 3) := Hid.mk' (by
                  rw [HK.out, checkC, if_pos HA.out, if_pos HND.out, all_not HJE.out (by rw [HE2.out]; simp [formC, ← HL.out, h0, h64])]; rfl)
                have HX := Hid.mk' (And.intro h0 h64)
                clear h0 h64
                go_wp2_with fail
                go_ret
                exact ⟨by rw [HKK.out]; rfl, H6⟩
          · have d2 : decide ((k : Int) < (j : Int)) = false := by simp; omega
            obtain rfl : k = j := by omega
            have hF' : E.all (fun c => formC c.2) = true := by have := hF.out; rwa [List.take_of_length_le (by rw [HEL.out]; exact Nat.le_refl _)] at this
            have HF := Hid.mk' hF'
            clear hF hF'
            go_wp2_with fail
            refine (esize_spec H5 (by have h := HR.out; rw [← HN.out] at h; exact h) HZ.out).mono ?_
            rintro e w6 ⟨rfl, H6⟩
            rw [← HE.out]
            have hs9 := sizeC_le cs HZ.out k
            rw [← HE.out, List.take_of_length_le (by rw [HEL.out]; exact Nat.le_refl _)] at hs9
            have hz1 := HZ.out.1
            obtain ⟨z, hz⟩ : ∃ z, z = sizeC E := ⟨_, rfl⟩
            rw [← hz] at hs9 ⊢
            have HSZ := Hid.mk' hz
            clear hz
            by_cases hzz : 1856 < z
            · have t4 : decide ((1856 : Int) < (z : Int)) = true := by simp; omega
              have t4n : decide (1856 < z) = true := by simp; omega
              have HKK : Hid (K = 11) := Hid.mk' (by
                rw [HK.out, checkC, if_pos HA.out, if_pos HND.out, if_pos HF.out, if_neg (by rw [← HSZ.out]; omega)])
              clear hzz
              go_wp2_with fail
              refine (most_spec _).mono ?_
              rintro e w7 ⟨rfl, rfl⟩
              go_wp2_with fail
              go_ret
              exact ⟨by rw [HKK.out]; rfl, H6⟩
            · have t4 : decide ((1856 : Int) < (z : Int)) = false := by simp; omega
              have t4n : decide (1856 < z) = false := by simp; omega
              have HKK : Hid (K = 0) := Hid.mk' (by
                rw [HK.out, checkC, if_pos HA.out, if_pos HND.out, if_pos HF.out, if_pos (by rw [← HSZ.out]; omega)])
              clear hzz
              go_wp2_with fail
              refine (most_spec _).mono ?_
              rintro e w7 ⟨rfl, rfl⟩
              go_wp2_with fail
              go_ret
              exact ⟨by rw [HKK.out]; rfl, H6⟩
      · have t1 : (((Maps.size D : Nat) : Int) != (j : Int)) = true := by rw [← HSD.out]; simp; omega
        have HKK : Hid (K = 5) := Hid.mk' (by rw [HK.out, checkC, if_pos HA.out, if_neg (fun h => hsj (HS.out.2 h))])
        have HX := Hid.mk' hsj
        clear hsj
        go_wp2_with fail
        go_ret
        exact ⟨by rw [HKK.out]; rfl, H4⟩
end Sh
/- msg.Size. -/
set_option linter.unusedVariables false
set_option linter.unusedSimpArgs false
namespace Sh
open Go Go.RowKit Go.Proofs
attribute [local go_sem ↓] Go.wp_at_zero Go.wp_at_succ
set_option maxHeartbeats 1000000
set_option maxRecDepth 100000

theorem tx_len (l : List UInt8) : (tx l).length ≤ 256 := by
  rw [tx, List.length_append, nb_length, wid_1, List.length_take]; omega
theorem body_len {m : Ms} (h : msgOk m = true) : (bodyB m).length ≤ 100000 := by
  simp only [msgOk, Bool.and_eq_true, decide_eq_true_eq, Bool.or_eq_true] at h
  obtain ⟨⟨⟨⟨⟨⟨⟨⟨⟨⟨k1, k2⟩, k3⟩, k4⟩, k5⟩, k6⟩, k7⟩, k8⟩, k9⟩, k10⟩, k11⟩ := h
  have f10 := inAll_mem k8 (x := (m.who.length : Int)) (by simp)
  have a1 : (m.who.flatMap (nb 4)).length = m.who.length * 4 := flatB_len (k := 4) (fun x => by rw [nb_length, wid_4]) _
  have a2 := txs_len k10 m.names.length
  rw [List.take_length] at a2
  have a3 := tx_len m.data
  have a4 : (txS m.name).length ≤ 256 := tx_len _
  unfold bodyB bodyS
  simp only [List.length_append, nb_length, wid_1, wid_2, wid_4, List.length_nil, a1]
  omega
theorem msize_spec {w : World} {R : Snap} {L : Asrt} (m : Ms) (H : Holds w R L) (hm : m.Rd R.cell?) (hz : m.Sz) :
    Calls Try.prog 55 #[.agg m.cells.toArray] w fun e w' => e = .returned (.int .i64 ((if msgOk m = true then (putM m).length else 0 : Nat) : Int)) ∧ Holds w' R L := by
  have HM := Hid.mk' hm
  have HZ := Hid.mk' hz
  have hlen : msgOk m = true → (bodyB m).length ≤ 100000 := fun h => body_len h
  have HL := Hid.mk' hlen
  obtain ⟨ok, hok⟩ : ∃ ok, ok = msgOk m := ⟨_, rfl⟩
  have HOK := Hid.mk' hok
  rw [← hok]
  obtain ⟨sz, hsz⟩ : ∃ sz, sz = (if ok = true then (putM m).length else 0) := ⟨_, rfl⟩
  rw [← hsz]
  have HSZ := Hid.mk' hsz
  have HSP := Hid.mk' (show ok = true → sz = (bodyB m).length + 4 from fun h => by rw [hsz, if_pos h, putM, sealB_len])
  obtain ⟨kind, from_, to_, ballot, name, attempt, epoch, mark, size, what, vw, vn, vd, who, names, data⟩ := m
  obtain ⟨hw, hn, hd⟩ := hm
  obtain ⟨z1, z2, z3, z4, z5⟩ := hz
  simp only at z1 z2 z3 z4 z5 hw hn hd
  obtain ⟨aw, cw, rfl⟩ := hw.form
  obtain ⟨an, cn, rfl⟩ := hn.form
  obtain ⟨ad, cd, rfl⟩ := hd.form
  obtain ⟨R1, le1, H1, hb⟩ := H.allocR (.cells #[.int .i64 kind, .int .i64 from_, .int .i64 to_, .int .i64 ballot, .string name, .int .i64 attempt, .int .i64 epoch, .int .i64 mark, .int .i64 size, .int .i64 what, .slice aw who.length cw, .slice an names.length cn, .slice ad data.length cd] tMsg (0, 0))
  clear hw hn hd hok hsz hlen H
  obtain ⟨l1, n1, c1⟩ := Holds.frzFacts (H1) hb
  show Calls _ _ #[.agg #[.int .i64 kind, .int .i64 from_, .int .i64 to_, .int .i64 ballot, .string name, .int .i64 attempt, .int .i64 epoch, .int .i64 mark, .int .i64 size, .int .i64 what, .slice aw who.length cw, .slice an names.length cn, .slice ad data.length cd]] _ _
  go_enter Try.func55, Try.ntmps55
  go_wp2_with fail
  refine (right25_spec (⟨kind, from_, to_, ballot, name, attempt, epoch, mark, size, what, .slice aw who.length cw, .slice an names.length cn, .slice ad data.length cd, who, names, data⟩ : Ms) H1 (fun w' h => (HM.out.le le1).world h) HZ.out).mono ?_
  rintro e w2 ⟨rfl, H2⟩
  rw [← HOK.out]
  clear H1 l1 n1 c1
  obtain ⟨l2, n2, c2⟩ := Holds.frzFacts (H2) hb
  cases ok
  · go_wp2_with fail
    go_ret
    exact ⟨by rw [HSZ.out]; rfl, H2.weaken le1⟩
  · go_wp2_with fail
    refine (mput_nil (⟨kind, from_, to_, ballot, name, attempt, epoch, mark, size, what, .slice aw who.length cw, .slice an names.length cn, .slice ad data.length cd, who, names, data⟩ : Ms) H2 (HM.out.le le1) HZ.out HOK.out.symm).mono ?_
    rintro e w3 ⟨o, rfl, H3⟩
    obtain ⟨a, c, rfl⟩ := H3.rowRd.form
    have hl := HL.out HOK.out.symm
    have hsz : sz = (bodyB (⟨kind, from_, to_, ballot, name, attempt, epoch, mark, size, what, .slice aw who.length cw, .slice an names.length cn, .slice ad data.length cd, who, names, data⟩ : Ms)).length + 4 := HSP.out (by first | trivial | rfl)
    generalize (bodyB (⟨kind, from_, to_, ballot, name, attempt, epoch, mark, size, what, .slice aw who.length cw, .slice an names.length cn, .slice ad data.length cd, who, names, data⟩ : Ms)).length = n at *
    have hw : IntKind.i64.wrap ((n : Int) + 4) = (n : Int) + 4 := IntWalk.i64_in _ (by omega)
    go_wp2_with fail
    go_ret
    exact ⟨by rw [hsz]; push_cast; rfl, (H3.drop).weaken le1⟩
end Sh
/- sherdref05's contracts. -/
set_option linter.unusedVariables false
set_option linter.unusedSimpArgs false
namespace Sh
open Go Go.RowKit Go.Proofs
attribute [local go_sem ↓] Go.wp_at_zero Go.wp_at_succ
set_option maxHeartbeats 1000000
set_option maxRecDepth 100000

def bitsOf (c : UInt8) (i : Nat) : Bool := c.toBitVec.getLsbD i
theorem byte_bits (r : Reg) (c : UInt8) : crcReg (bitsOf c) r 8 = byteStep r c := by
  rw [show (8 : Nat) = 0 + 8 from rfl, crcReg_word (by omega)]
  show crcSteps 8 (r ^^^ _) = crcSteps 8 (r ^^^ _)
  congr 2
  apply BitVec.eq_of_getLsbD_eq
  intro i hi
  rw [crcWord_bit hi, BitVec.getLsbD_setWidth, decide_eq_true hi, Bool.true_and, Nat.zero_add]
  by_cases h : i < 8
  · rw [decide_eq_true h]; rfl
  · rw [decide_eq_false h, BitVec.getLsbD_of_ge _ _ (by omega)]; rfl
theorem bit_step (y : Reg) (b : Bool) : crcStep (y ^^^ (BitVec.ofBool b).setWidth 32) = if y.getLsbD 0 = b then y >>> 1 else (y >>> 1) ^^^ 0xEDB88320#32 := by
  have h1 : (y ^^^ (BitVec.ofBool b).setWidth 32) >>> 1 = y >>> 1 := by
    rw [BitVec.ushiftRight_xor_distrib]
    have : ((BitVec.ofBool b).setWidth 32) >>> 1 = 0#32 := by cases b <;> rfl
    rw [this, BitVec.xor_zero]
  have h2 : (y ^^^ (BitVec.ofBool b).setWidth 32).getLsbD 0 = (y.getLsbD 0 ^^ b) := by
    rw [BitVec.getLsbD_xor]; congr 1; cases b <;> rfl
  unfold crcStep
  rw [h1, h2]
  cases y.getLsbD 0 <;> cases b <;> rfl
@[go_sem] theorem up32 (c : UInt8) : IntKind.u32.wrap (c.toNat : Int) = tn (c.toBitVec.setWidth 32) := by
  have h := c.toBitVec.isLt
  have e : tn (c.toBitVec.setWidth 32) = (c.toNat : Int) := by
    unfold tn; rw [BitVec.toNat_setWidth, Nat.mod_eq_of_lt (Nat.lt_trans h (by decide))]; rfl
  rw [e]
  have h2 := u8_lt c
  simp [IntKind.wrap, IntKind.bits, IntKind.signed]; omega
@[go_sem] theorem div4 (x : Reg) : tn x / (4 : Int) = tn (x >>> 2) := shr32 x 2
@[go_sem] theorem div8 (x : Reg) : tn x / (8 : Int) = tn (x >>> 3) := shr32 x 3
@[go_sem] theorem div16 (x : Reg) : tn x / (16 : Int) = tn (x >>> 4) := shr32 x 4
@[go_sem] theorem div32 (x : Reg) : tn x / (32 : Int) = tn (x >>> 5) := shr32 x 5
@[go_sem] theorem div64 (x : Reg) : tn x / (64 : Int) = tn (x >>> 6) := shr32 x 6
@[go_sem] theorem div128 (x : Reg) : tn x / (128 : Int) = tn (x >>> 7) := shr32 x 7
theorem bit_and (c : UInt8) (k : Nat) (hk : k < 8) : bits .and .u32 (tn (c.toBitVec.setWidth 32 >>> k)) 1 = if bitsOf c k then 1 else 0 := by
  rw [and1, BitVec.getLsbD_ushiftRight, BitVec.getLsbD_setWidth, decide_eq_true (show k + 0 < 32 by omega), Bool.true_and]; rfl
theorem csum_ref {w : World} {v : Value} {b : List UInt8} (hr : RdB w.cell? v b) :
    Calls Try.prog 135 #[v] w fun e w' => e = .returned (.int .u32 (tn (crcOf b))) ∧ w = w' := by
  obtain ⟨a, c, rfl⟩ := hr.form
  have hqm := Rd.max hr
  unfold maxLen at hqm
  go_enter Try.func135, Try.ntmps135
  go_wp2_with fail
  go_loop [3, 4] (fun x i => ∃ j : Nat, i = .int .i64 j ∧ j ≤ b.length ∧ x = .int .u32 (tn (crcRun crcOnes (b.take j)))) (fun _ i => b.length - (intOf i).toNat)
  case atStart => exact ⟨0, rfl, Nat.zero_le _, rfl⟩
  case round =>
    obtain ⟨j, rfl, hj, rfl⟩ := hrel
    by_cases hlt : j < b.length
    · obtain ⟨bb, ob, rfl, hc⟩ := RdB.open hr (by omega)
      have cj := hc j hlt
      have hst := crcRun_take crcOnes b j hlt
      generalize crcRun crcOnes (b.take j) = r0 at hst ⊢
      generalize b[j] = q at cj hst
      have HS := Hid.mk' hst
      clear hst hc
      go_wp2_with fail
      go_loop [3, 5] (fun x k => ∃ n : Nat, k = .int .i64 n ∧ n ≤ 8 ∧ x = .int .u32 (tn (crcReg (bitsOf q) r0 n))) (fun _ k => 8 - (intOf k).toNat)
      case atStart => exact ⟨0, rfl, Nat.zero_le _, rfl⟩
      case round =>
        obtain ⟨n, rfl, hn, rfl⟩ := hrel
        by_cases hn8 : n < 8
        · have hst : crcReg (bitsOf q) r0 (n + 1) = _ := bit_step (crcReg (bitsOf q) r0 n) (bitsOf q n)
          generalize crcReg (bitsOf q) r0 n = y at hst ⊢
          have HST := Hid.mk' hst
          clear hst
          rcases (by omega : n = 0 ∨ n = 1 ∨ n = 2 ∨ n = 3 ∨ n = 4 ∨ n = 5 ∨ n = 6 ∨ n = 7) with rfl | rfl | rfl | rfl | rfl | rfl | rfl | rfl
          all_goals
            cases h1 : y.getLsbD 0 <;> cases h2 : bitsOf q _
            all_goals
              have ha := and1 y
              have hb := bit_and q _ hn8
              rw [h1] at ha
              rw [h2] at hb
              try rw [show (q.toBitVec.setWidth 32 : Reg) >>> 0 = q.toBitVec.setWidth 32 from rfl] at hb
              have HH1 := Hid.mk' h1
              have HH2 := Hid.mk' h2
              clear h1 h2
              simp only [Bool.false_eq_true, if_false, if_true] at ha hb
              go_wp2_with fail
              go_round
              case rel => exact ⟨_ + 1, rfl, by omega, by rw [HST.out, HH1.out, HH2.out]; rfl⟩
              case measure => simp [intOf]
        · obtain rfl : n = 8 := by omega
          rw [byte_bits]
          go_wp2_with fail
          go_round
          case rel => exact ⟨j + 1, by go_num, hlt, by rw [HS.out]⟩
          case measure => simp [intOf]; omega
    · go_wp2_with fail
      go_ret
      rw [List.take_of_length_le (by omega)]
      exact ⟨rfl, rfl⟩
@[go_sem] theorem and255 (x : Reg) : bits .and .u32 (tn x) 255 = bn (x.setWidth 8) := by
  show IntKind.u32.wrap (((BitVec.ofInt 32 (tn x)) &&& 255#32).toNat : Int) = _
  rw [ofInt32, wrap32]
  unfold tn bn
  congr 1
  rw [BitVec.toNat_and, BitVec.toNat_setWidth]
  exact Nat.and_two_pow_sub_one_eq_mod _ 8
@[go_sem] theorem wrapbn (x : BitVec 8) : IntKind.u8.wrap (bn x) = bn x := wrap8 x
theorem cseal_ref {w : World} {R : Snap} {L : Asrt} {v : Value} {b : List UInt8} (H : Holds w R L) (hr : RdB R.cell? v b) (hb : b.length ≤ 1000000) :
    Calls Try.prog 58 #[v] w fun e w' => ∃ o, e = .returned o ∧ Holds w' R (star (rowB o (sealB b)) L) := by
  obtain ⟨a, c, rfl⟩ := hr.form
  go_enter Try.func58, Try.ntmps58
  go_wp2_with fail
  refine (csum_ref (hr.world H)).mono ?_
  rintro e w1 ⟨rfl, rfl⟩
  go_wp2_with (with_reducible refine stop_append ?_)
  refine Hold.go (wpList_appendB rfl _ _ rfl rfl rfl (freshB H) (hr.world (H.garbage _)) (by simp only [List.length_nil]; omega) ?_)
  intro v2 w2 H2
  rw [List.nil_append] at H2
  go_wp2_with fail
  have H5 : Holds w2 R (star (rowB v2 (b ++ (fourB (crcOf b)).take 0)) L) := by simpa using H2
  go_loopw [4, 5] (fun o i wx => ∃ j : Nat, i = .int .i64 j ∧ j ≤ 4 ∧ Holds wx R (star (rowB o (b ++ (fourB (crcOf b)).take j)) L)) (fun _ i _ => 4 - (intOf i).toNat)
  case atStart => exact ⟨0, rfl, Nat.zero_le _, H5⟩
  case round =>
    clear H2 H5
    obtain ⟨j, rfl, hj, H6⟩ := hrel
    by_cases hlt : j < 4
    · have hs := fourB_take_succ (crcOf b) hlt
      have HS := Hid.mk' hs
      have hln : (b ++ (fourB (crcOf b)).take j).length ≤ 1000010 := by
        rw [List.length_append, List.length_take, fourB_length]; omega
      clear hs
      rcases (by omega : j = 0 ∨ j = 1 ∨ j = 2 ∨ j = 3) with rfl | rfl | rfl | rfl
      · go_wp2_with (with_reducible refine stop_append ?_)
        refine Hold.go (wpList_appendB rfl _ _ rfl rfl rfl (H6.garbage _) (blkRdB (H6.alloc _ _) [fb (crcOf b) 0] rfl rfl (Nat.le_of_ble_eq_true rfl)) (by rw [List.length_singleton]; omega) ?_)
        intro v7 w7 H7
        go_wp2_with fail
        go_roundw
        case rel => exact ⟨1, rfl, by omega, by rw [HS.out, ← List.append_assoc]; exact H7⟩
        case measure => simp [intOf]
      · go_wp2_with (with_reducible refine stop_append ?_)
        refine Hold.go (wpList_appendB rfl _ _ rfl rfl rfl (H6.garbage _) (blkRdB (H6.alloc _ _) [fb (crcOf b) 1] rfl rfl (Nat.le_of_ble_eq_true rfl)) (by rw [List.length_singleton]; omega) ?_)
        intro v7 w7 H7
        go_wp2_with fail
        go_roundw
        case rel => exact ⟨2, rfl, by omega, by rw [HS.out, ← List.append_assoc]; exact H7⟩
        case measure => simp [intOf]
      · go_wp2_with (with_reducible refine stop_append ?_)
        refine Hold.go (wpList_appendB rfl _ _ rfl rfl rfl (H6.garbage _) (blkRdB (H6.alloc _ _) [fb (crcOf b) 2] rfl rfl (Nat.le_of_ble_eq_true rfl)) (by rw [List.length_singleton]; omega) ?_)
        intro v7 w7 H7
        go_wp2_with fail
        go_roundw
        case rel => exact ⟨3, rfl, by omega, by rw [HS.out, ← List.append_assoc]; exact H7⟩
        case measure => simp [intOf]
      · go_wp2_with (with_reducible refine stop_append ?_)
        refine Hold.go (wpList_appendB rfl _ _ rfl rfl rfl (H6.garbage _) (blkRdB (H6.alloc _ _) [fb (crcOf b) 3] rfl rfl (Nat.le_of_ble_eq_true rfl)) (by rw [List.length_singleton]; omega) ?_)
        intro v7 w7 H7
        go_wp2_with fail
        go_roundw
        case rel => exact ⟨4, rfl, by omega, by rw [HS.out, ← List.append_assoc]; exact H7⟩
        case measure => simp [intOf]
    · obtain rfl : j = 4 := by omega
      go_wp2_with fail
      go_ret
      exact ⟨_, rfl, H6⟩
theorem cgood_ref {w : World} {R : Snap} {L : Asrt} {v : Value} {b : List UInt8} (H : Holds w R L) (hr : RdB R.cell? v b) (hb : b.length ≤ 1000000) :
    Calls Try.prog 136 #[v] w fun e w' => e = .returned (.bool (goodB b)) ∧ Holds w' R L := by
  obtain ⟨a, c, rfl⟩ := hr.form
  by_cases h4 : 4 ≤ b.length
  · have hB := hr.bounds
    obtain ⟨n, hn⟩ : ∃ n, n = b.length - 4 := ⟨_, rfl⟩
    have hbn : b.length = n + 4 := by omega
    have hbz : (b.length : Int) - 4 = n := by omega
    have i1 : (0 : Int) ≤ (n : Int) := by omega
    have i2 : (n : Int) ≤ (c : Int) := by omega
    have hpre := RdB.pre hr n (by omega)
    have t0 : (decide ((b.length : Int) < 4)) = false := by simp; omega
    have hbt : (b.take n).length = n := by simp; omega
    have HN := Hid.mk' hbn
    clear hn
    go_enter Try.func136, Try.ntmps136
    go_wp2_with fail
    refine (cseal_ref H hpre (by omega)).mono ?_
    rintro e w1 ⟨o, rfl, H1⟩
    obtain ⟨ao, co, rfl⟩ := H1.rowRd.form
    go_wp2_with fail
    have hsl : (sealB (b.take n)).length = n + 4 := by rw [sealB, List.length_append, fourB_length, hbt]
    have hgs : goodB b = decide (b = sealB (b.take n)) := by
      unfold goodB
      rw [show b.length - 4 = n by omega]
      simp [h4]
    have HG := Hid.mk' hgs
    generalize sealB (b.take n) = s at H1 hsl HG ⊢
    clear hgs
    rw [hsl] at H1
    rw [hsl]
    go_loopw [4] (fun i wx => ∃ j : Nat, i = .int .i64 j ∧ j ≤ n + 4 ∧ (∀ i, i < j → s[i]? = b[i]?) ∧ Holds wx R (star (row tU8 1 (.slice ao (n + 4) co) (n + 4) (u8s s)) L)) (fun i _ => n + 4 - (intOf i).toNat)
    case atStart => exact ⟨0, rfl, Nat.zero_le _, fun i hi => absurd hi (Nat.not_lt_zero i), by have h := H1; unfold rowB at h; rw [hsl] at h; exact h⟩
    case round =>
      clear H1
      obtain ⟨j, rfl, hj, hall, H6⟩ := hrel
      have HA := Hid.mk' hall
      clear hall
      by_cases hlt : j < n + 4
      · have hrs : RdB wr.cell? (.slice ao (n + 4) co) s := by have h := H6.rowRd; unfold RdB; rw [hsl]; exact h
        obtain ⟨bs, os, rfl, hcs⟩ := RdB.open hrs (by omega)
        obtain ⟨bb, ob, rfl, hcb⟩ := RdB.open hr (by omega)
        have hnj : j < b.length := by omega
        have hsj : j < s.length := by omega
        have cj := H6.cell (hcb j hnj)
        have cs := hcs j hsj
        have hgj : b[j]? = some b[j] := List.getElem?_eq_getElem hnj
        have hgs : s[j]? = some s[j] := List.getElem?_eq_getElem hsj
        have HJ := Hid.mk' hgj
        have HJS := Hid.mk' hgs
        have i3 : (0 : Int) ≤ (j : Int) := by omega
        have i4 : (j : Int) < (n : Int) + 4 := by omega
        clear hcb hcs hgj hgs hrs
        generalize b[j] = y at cj HJ
        generalize s[j] = z at cs HJS
        by_cases hyx : z = y
        · subst hyx
          have hsucc : ∀ i, i < j + 1 → s[i]? = b[i]? := fun i hi => by
            by_cases h : i < j
            · exact HA.out i h
            · obtain rfl : i = j := by omega
              rw [HJ.out, HJS.out]
          have HSU := Hid.mk' hsucc
          clear hsucc
          go_wp2_with fail
          go_quiet (fail)
          go_wp2_with fail
          go_roundw
          case rel => exact ⟨j + 1, by go_num, hlt, HSU.out, H6.drewN _⟩
          case measure => simp [intOf]; omega
        · have hz : ¬ ((z.toNat : Int) = (y.toNat : Int)) := fun e => hyx (UInt8.toNat_inj.1 (by omega))
          have hfail : goodB b = false := by
            rw [HG.out, decide_eq_false_iff_not]
            intro e
            have := HJ.out
            rw [e, HJS.out] at this
            exact hyx (Option.some.inj this)
          go_wp2_with fail
          go_quiet (fail)
          go_wp2_with fail
          go_ret
          rw [hfail]
          exact ⟨rfl, (H6.drewN _).drop⟩
      · obtain rfl : j = n + 4 := by omega
        have hok : goodB b = true := by
          rw [HG.out, decide_eq_true_eq]
          apply List.ext_getElem?
          intro i
          by_cases h : i < n + 4
          · exact (HA.out i h).symm
          · rw [List.getElem?_eq_none (by omega), List.getElem?_eq_none (by omega)]
        go_wp2_with fail
        go_ret
        rw [hok]
        exact ⟨rfl, H6.drop⟩
  · have t1 : (decide ((b.length : Int) < 4)) = true := by simp; omega
    have hg : goodB b = false := by unfold goodB; simp [h4]
    go_enter Try.func136, Try.ntmps136
    go_wp2_with fail
    go_ret
    rw [hg]
    exact ⟨rfl, H⟩
/-- What a turn gives: as long, and the same but for 32 bits from 'first' on. -/
def turnedB (b x : List UInt8) (first : Int) : Prop := x.length = b.length ∧ ∀ i : Nat, ((i : Int) < first ∨ first + 32 ≤ i) → bitAt x i = bitAt b i
theorem bitAt_set {l : List UInt8} {m : Nat} {c : UInt8} {i : Nat} (h : i ≠ m) (hm : m / 8 < l.length) (hc : ∀ r, r < 8 → r ≠ m % 8 → c.toBitVec.getLsbD r = (l.getD (m / 8) 0).toBitVec.getLsbD r) : bitAt (l.set (m / 8) c) i = bitAt l i := by
  unfold bitAt
  by_cases e : m / 8 = i / 8
  · rw [List.getD_eq_getElem?_getD, ← e, List.getElem?_set_self hm]
    show c.toBitVec.getLsbD (i % 8) = _
    exact hc (i % 8) (by omega) (by omega)
  · rw [List.getD_eq_getElem?_getD, List.getElem?_set_ne e, ← List.getD_eq_getElem?_getD]
@[go_sem] theorem wrapu8_1 : IntKind.u8.wrap 1 = 1 := by decide
@[go_sem] theorem wrapu8_2 : IntKind.u8.wrap 2 = 2 := by decide
@[go_sem] theorem wrapu8_4 : IntKind.u8.wrap 4 = 4 := by decide
@[go_sem] theorem wrapu8_8 : IntKind.u8.wrap 8 = 8 := by decide
@[go_sem] theorem wrapu8_16 : IntKind.u8.wrap 16 = 16 := by decide
@[go_sem] theorem wrapu8_32 : IntKind.u8.wrap 32 = 32 := by decide
@[go_sem] theorem wrapu8_64 : IntKind.u8.wrap 64 = 64 := by decide
@[go_sem] theorem wrapu8_128 : IntKind.u8.wrap 128 = 128 := by decide
theorem flip_mask : ∀ r, r < 8 → ∀ s, s < 8 → s ≠ r → (BitVec.ofNat 8 (2 ^ r)).getLsbD s = false := by decide
theorem flip_bit (y : UInt8) (r : Nat) (hr : r < 8) : ∃ z : UInt8, bits .xor .u8 (y.toNat : Int) ((2 ^ r : Nat) : Int) = (z.toNat : Int) ∧ ∀ s, s < 8 → s ≠ r → z.toBitVec.getLsbD s = y.toBitVec.getLsbD s := by
  refine ⟨UInt8.ofBitVec (y.toBitVec ^^^ BitVec.ofNat 8 (2 ^ r)), ?_, fun s hs hne => ?_⟩
  · show IntKind.u8.wrap (((BitVec.ofInt 8 (bn y.toBitVec)) ^^^ (BitVec.ofInt 8 ((2 ^ r : Nat) : Int))).toNat : Int) = _
    rw [ofInt8, wrap8, BitVec.ofInt_natCast]; rfl
  · show (y.toBitVec ^^^ BitVec.ofNat 8 (2 ^ r)).getLsbD s = _
    rw [BitVec.getLsbD_xor, flip_mask r hr s hs hne, Bool.xor_false]
theorem turn_spec {w : World} {R : Snap} {L : Asrt} {v : Value} {b : List UInt8} {first : Int} {mask : Reg} (H : Holds w R L) (hr : RdB R.cell? v b) (hb : b.length ≤ 1000000) (hf : -9223372036854775808 ≤ first ∧ first ≤ 9223372036854775807) :
    Calls Try.prog 60 #[v, .int .i64 first, .int .u32 (tn mask)] w fun e w' => ∃ o x, e = .returned o ∧ turnedB b x first ∧ Holds w' R (star (rowB o x) L) := by
  obtain ⟨a, c, rfl⟩ := hr.form
  go_enter Try.func60, Try.ntmps60
  go_wp2_with (with_reducible refine stop_append ?_)
  refine Hold.go (wpList_appendB rfl _ _ rfl rfl rfl (freshB H) (hr.world (H.garbage _)) (by simp only [List.length_nil]; omega) ?_)
  intro v2 w2 H2
  rw [List.nil_append] at H2
  go_wp2_with fail
  obtain ⟨ao, co, rfl⟩ := H2.rowRd.form
  go_loopw [8] (fun i wx => ∃ (j : Nat) (x : List UInt8), i = .int .i64 j ∧ j ≤ 32 ∧ turnedB b x first ∧ Holds wx R (star (row tU8 1 (.slice ao b.length co) b.length (u8s x)) L)) (fun i _ => 32 - (intOf i).toNat)
  case atStart => exact ⟨0, b, rfl, Nat.zero_le _, ⟨rfl, fun _ _ => rfl⟩, H2⟩
  case round =>
    clear H2
    obtain ⟨j, x, rfl, hj, hx, H6⟩ := hrel
    by_cases hlt : j < 32
    · have hxl := hx.1
      have hs : tn mask / (2 : Int) ^ j = tn (mask >>> j) := shr32 mask j
      have ha := and1 (mask >>> j)
      by_cases hskip : (mask >>> j).getLsbD 0 = false ∨ first < 0 ∨ 8 * (b.length : Int) - 1 - j < first
      · by_cases hm0 : (mask >>> j).getLsbD 0 = true
        · rw [hm0, if_pos rfl] at ha
          by_cases hf0 : first < 0
          · have t1 : (decide (first < 0)) = true := by simpa using hf0
            clear hskip hm0
            go_wp2_with fail
            go_roundw
            case rel => exact ⟨j + 1, x, by go_num, hlt, hx, H6⟩
            case measure => simp [intOf]; omega
          · have hf1 : 8 * (b.length : Int) - 1 - j < first := by
              rcases hskip with h | h | h
              · rw [h] at hm0; cases hm0
              · exact absurd h hf0
              · exact h
            have t1 : (decide (first < 0)) = false := by simpa using hf0
            have t2 : (decide (8 * (b.length : Int) - 1 - j < first)) = true := by simpa using hf1
            clear hskip hm0
            go_wp2_with fail
            go_roundw
            case rel => exact ⟨j + 1, x, by go_num, hlt, hx, H6⟩
            case measure => simp [intOf]; omega
        · rw [if_neg hm0] at ha
          clear hskip hm0
          go_wp2_with fail
          go_roundw
          case rel => exact ⟨j + 1, x, by go_num, hlt, hx, H6⟩
          case measure => simp [intOf]; omega
      · obtain ⟨hm1, hf0, hf1⟩ : (mask >>> j).getLsbD 0 = true ∧ 0 ≤ first ∧ first ≤ 8 * (b.length : Int) - 1 - j := by
          refine ⟨?_, by omega, by omega⟩
          cases h : (mask >>> j).getLsbD 0 with
          | true => rfl
          | false => exact absurd (.inl h) hskip
        rw [hm1, if_pos rfl] at ha
        obtain ⟨f, rfl⟩ : ∃ f : Nat, first = f := ⟨first.toNat, by omega⟩
        obtain ⟨m, hm⟩ : ∃ m, m = f + j := ⟨_, rfl⟩
        obtain ⟨k, hk⟩ : ∃ k, k = m / 8 := ⟨_, rfl⟩
        obtain ⟨r, hrr⟩ : ∃ r, r = m % 8 := ⟨_, rfl⟩
        have hat : (f : Int) + (j : Int) = (m : Int) := by omega
        have hq : (m : Int).tdiv 8 = (k : Int) := by rw [Int.tdiv_eq_ediv_of_nonneg (by omega)]; omega
        have hrm : (m : Int).tmod 8 = (r : Int) := by rw [Int.tmod_eq_emod_of_nonneg (by omega)]; omega
        have hkl : k < b.length := by omega
        have hr8 : r < 8 := by omega
        have t1 : (decide ((f : Int) < 0)) = false := by simp
        have t2 : (decide (8 * (b.length : Int) - 1 - j < f)) = false := by simp; omega
        have HK := Hid.mk' (And.intro hm (And.intro hk hrr))
        clear hskip hm1 hm hk hrr
        obtain ⟨g, cap, e1, hc, hg2, hcl, hfz⟩ := H6.rowAt (by omega)
        simp only [Value.slice.injEq, true_and] at e1
        obtain ⟨rfl, rfl⟩ := e1
        have hkx : k < x.length := by rw [hxl]; exact hkl
        have ck := hcl k (.int .u8 (x[k].toNat : Int)) (by rw [u8s, List.getElem?_map, List.getElem?_eq_getElem hkx]; rfl)
        have fk := hfz k
        have hy : x.getD k 0 = x[k] := by rw [List.getD_eq_getElem?_getD, List.getElem?_eq_getElem hkx]; rfl
        obtain ⟨z, hz, hzb⟩ := flip_bit x[k] r hr8
        rw [← hy] at hz hzb ck
        generalize x.getD k 0 = y at hz ck
        have HZ := Hid.mk' hzb
        have HX := Hid.mk' hx
        have hnew : turnedB b (x.set k z) (f : Int) := by
          obtain ⟨h1, h2, h3⟩ := HK.out
          refine ⟨by rw [List.length_set]; exact hxl, fun i hi => ?_⟩
          rw [← hx.2 i hi, h2]
          refine bitAt_set (by omega) (by rw [← h2]; exact hkx) (fun s hs hne => ?_)
          rw [← h2]
          exact hzb s hs (by omega)
        have HNW := Hid.mk' hnew
        have i1 : (0 : Int) ≤ (k : Int) := by omega
        have i2 : (k : Int) < (b.length : Int) := by omega
        have wk : IntKind.i64.wrap (k : Int) = (k : Int) := IntWalk.i64_in _ (by omega)
        clear hcl hfz hy hzb hx hnew
        have hfin : ∀ w', w' = wr.drew.setCell ⟨g, k, none⟩ (.int .u8 (z.toNat : Int)) → Holds w' R (star (row tU8 1 (.slice (some ⟨g, 0, none⟩) b.length co) b.length (u8s (x.set k z))) L) := by
          rintro w' rfl
          have h := row_write H6.drew k (z.toNat : Int) hkl (by have := u8_lt z; omega)
          rw [Int.toNat_natCast, show UInt8.ofNat z.toNat = z by simp] at h
          exact h
        have HF := Hid.mk' hfin
        clear hfin
        rcases (by omega : r = 0 ∨ r = 1 ∨ r = 2 ∨ r = 3 ∨ r = 4 ∨ r = 5 ∨ r = 6 ∨ r = 7) with rfl | rfl | rfl | rfl | rfl | rfl | rfl | rfl
        · have hz2 : bits .xor .u8 (y.toNat : Int) 1 = (z.toNat : Int) := hz
          clear hz
          go_wp2_with fail
          go_still_tail 13, (by kernel_rfl)
          change wpList _ _ _ _ _ wr.drew
          go_wp2_with fail
          go_roundw
          case rel => exact ⟨j + 1, x.set k z, by go_num, hlt, HNW.out, HF.out _ rfl⟩
          case measure => simp [intOf]; omega
        · have hz2 : bits .xor .u8 (y.toNat : Int) 2 = (z.toNat : Int) := hz
          clear hz
          go_wp2_with fail
          go_still_tail 13, (by kernel_rfl)
          change wpList _ _ _ _ _ wr.drew
          go_wp2_with fail
          go_roundw
          case rel => exact ⟨j + 1, x.set k z, by go_num, hlt, HNW.out, HF.out _ rfl⟩
          case measure => simp [intOf]; omega
        · have hz2 : bits .xor .u8 (y.toNat : Int) 4 = (z.toNat : Int) := hz
          clear hz
          go_wp2_with fail
          go_still_tail 13, (by kernel_rfl)
          change wpList _ _ _ _ _ wr.drew
          go_wp2_with fail
          go_roundw
          case rel => exact ⟨j + 1, x.set k z, by go_num, hlt, HNW.out, HF.out _ rfl⟩
          case measure => simp [intOf]; omega
        · have hz2 : bits .xor .u8 (y.toNat : Int) 8 = (z.toNat : Int) := hz
          clear hz
          go_wp2_with fail
          go_still_tail 13, (by kernel_rfl)
          change wpList _ _ _ _ _ wr.drew
          go_wp2_with fail
          go_roundw
          case rel => exact ⟨j + 1, x.set k z, by go_num, hlt, HNW.out, HF.out _ rfl⟩
          case measure => simp [intOf]; omega
        · have hz2 : bits .xor .u8 (y.toNat : Int) 16 = (z.toNat : Int) := hz
          clear hz
          go_wp2_with fail
          go_still_tail 13, (by kernel_rfl)
          change wpList _ _ _ _ _ wr.drew
          go_wp2_with fail
          go_roundw
          case rel => exact ⟨j + 1, x.set k z, by go_num, hlt, HNW.out, HF.out _ rfl⟩
          case measure => simp [intOf]; omega
        · have hz2 : bits .xor .u8 (y.toNat : Int) 32 = (z.toNat : Int) := hz
          clear hz
          go_wp2_with fail
          go_still_tail 13, (by kernel_rfl)
          change wpList _ _ _ _ _ wr.drew
          go_wp2_with fail
          go_roundw
          case rel => exact ⟨j + 1, x.set k z, by go_num, hlt, HNW.out, HF.out _ rfl⟩
          case measure => simp [intOf]; omega
        · have hz2 : bits .xor .u8 (y.toNat : Int) 64 = (z.toNat : Int) := hz
          clear hz
          go_wp2_with fail
          go_still_tail 13, (by kernel_rfl)
          change wpList _ _ _ _ _ wr.drew
          go_wp2_with fail
          go_roundw
          case rel => exact ⟨j + 1, x.set k z, by go_num, hlt, HNW.out, HF.out _ rfl⟩
          case measure => simp [intOf]; omega
        · have hz2 : bits .xor .u8 (y.toNat : Int) 128 = (z.toNat : Int) := hz
          clear hz
          go_wp2_with fail
          go_still_tail 13, (by kernel_rfl)
          change wpList _ _ _ _ _ wr.drew
          go_wp2_with fail
          go_roundw
          case rel => exact ⟨j + 1, x.set k z, by go_num, hlt, HNW.out, HF.out _ rfl⟩
          case measure => simp [intOf]; omega
    · go_wp2_with fail
      go_ret
      exact ⟨_, x, rfl, hx, by unfold rowB; rw [hx.1]; exact H6⟩
end Sh
