/- EntPieces BytesEq Rec RecPieces LabelPut: joined texts, each with its own sentence below. -/
import Derived.Test.YtmogagcffebbaaaJd9
import Derived.RangeFuncBox
import Derived.TacticsInMore
import Derived.LoopNIn
import Derived.LoopIn
import Derived.Test.YtmogagcffebbaaaJd2
import Derived.Test.YtmogagcffebbaaaJd3
import Derived.Test.YtmogagcffebbaaaJd5
/- entry.pieces: what its function value does, for every body: it writes its own variable. -/
set_option linter.unusedVariables false
set_option linter.unusedSimpArgs false
namespace Sh
open Go Go.RowKit Go.Proofs
attribute [local go_sem ↓] Go.wp_at_zero Go.wp_at_succ
set_option maxHeartbeats 1000000
set_option maxRecDepth 100000
attribute [local go_sem] Oper.semAt_some

def partsN (n : Nat) : Nat := (n + 57) / 58
/-- The part that comes i-th. -/
def partV (b o N c i : Nat) : Value := .slice (some ⟨b, o + 58 * i, none⟩) (min (N - 58 * i) 58) (c - 58 * i)
theorem heap_setOne {W : World} {g : Nat} {v v' : Value} {t : TypeId} (h : W.heap[g]? = some (.cells #[v] t (0, 0))) : (W.setCell ⟨g, 0, none⟩ v').heap[g]? = some (.cells #[v'] t (0, 0)) := by
  show (W.heap.modify g _)[g]? = _
  simp only [Array.getElem?_modify, if_true, h, Option.map_some]
  rfl
theorem entPieces_stops (g N c b0 o0 : Nat) (a : Option Addr) (ha : 0 < N → a = some ⟨b0, o0, none⟩) (hN : N ≤ 100000) (hc : N ≤ c) (hc9 : c ≤ maxLen) (w : World) (hg : w.heap[g]? = some (.cells #[.slice a N c] tBytes (0, 0))) :
    SeqMut Try.prog 191 #[.pointer (some ⟨g, 0, none⟩)] (fun x : Fin (partsN N) => #[.int .i64 (x.1 : Nat), partV b0 o0 N c x.1]) g tBytes (fun ys => ys = List.finRange (partsN N)) (partsN N) w := by
  intro l J W hW hset hY h0
  have hgc : ∀ (W' : World) (v : Value), W'.heap[g]? = some (.cells #[v] tBytes (0, 0)) → g < W'.heap.size ∧ (∀ o, W'.cell? ⟨g, o, none⟩ = #[v][o]?) ∧ ∀ o, W'.frozen? ⟨g, o, none⟩ = false := fun W' v h =>
    ⟨(Array.getElem?_eq_some_iff.1 h).1, fun o => cell_of_blk h o, fun o => frozen_of_blk h o⟩
  have HG := Hid.mk' (hW.trans hg)
  have HGC := Hid.mk' hgc
  have HY := Hid.mk' hY
  have HSET := Hid.mk' hset
  have HA := Hid.mk' ha
  clear hg hW hgc hY hset ha
  refine callsIn_of_wp Try.func191 rfl trivial ?_ rfl
  simp only [Try.ntmps191, List.size_toArray, List.length_cons, List.length_nil, Nat.reduceAdd, Nat.reduceSub, Array.replicate_succ, Array.replicate_zero, List.push_toArray, List.append_toArray, List.nil_append, List.cons_append]
  gi_wp2
  have upk : ∀ k (h : k < partsN N), (List.finRange (partsN N)).take (k + 1) = (List.finRange (partsN N)).take k ++ [⟨k, h⟩] := fun k h => by
    rw [List.take_succ_eq_append_getElem (by rw [List.length_finRange]; exact h)]
    simp
  have UPK := Hid.mk' upk
  have upl : ∀ k, k ≤ partsN N → ((List.finRange (partsN N)).take k).length = k := fun k h => by
    rw [List.length_take, List.length_finRange]; omega
  have UPL := Hid.mk' upl
  have hM : N ≤ 58 * partsN N ∧ 58 * partsN N < N + 58 := by unfold partsN; omega
  obtain ⟨M, hMM⟩ : ∃ M, M = partsN N := ⟨_, rfl⟩
  have HMM := Hid.mk' hMM
  rw [← hMM] at hM
  obtain ⟨hM1, hM2⟩ := hM
  clear upk upl hMM
  gi_loopw [3] (fun i wr => ∃ (k r ck : Nat) (ak : Option Addr), k ≤ M ∧ i = .int .i64 k ∧ J ((List.finRange (partsN N)).take k) wr ∧ wr.heap[g]? = some (.cells #[.slice ak r ck] tBytes (0, 0)) ∧ r = N - 58 * k ∧ r ≤ ck ∧ ck ≤ maxLen ∧ (0 < r → ak = some ⟨b0, o0 + 58 * k, none⟩ ∧ ck = c - 58 * k)) (fun i _ => M - (intOf i).toNat)
  case atStart => exact ⟨0, N, c, a, Nat.zero_le _, rfl, h0, HG.out, by simp, hc, hc9, fun h => ⟨by rw [HA.out h]; simp, by simp⟩⟩
  case round =>
    clear h0 HG HA
    obtain ⟨k, r, ck, ak, hk, rfl, hJs, hgw, hr, hrc, hcm, hak⟩ := hrel
    obtain ⟨l1, k1, z1⟩ := HGC.out _ _ hgw
    by_cases hlt : 0 < r
    · have d1 : decide ((0 : Int) < (r : Int)) = true := by simp; omega
      have d1n : decide (0 < r) = true := by simp; omega
      have hkM : k < M := by omega
      have hlt' : k < partsN N := by rw [← HMM.out]; exact hkM
      obtain ⟨rfl, hck⟩ := hak hlt
      obtain ⟨fn, tmps, assign, body, hy, hR⟩ := HY.out _ ⟨k, hlt'⟩ wr hJs (by rw [UPL.out k (by omega)]; exact hlt')
      obtain ⟨m, hm⟩ : ∃ m, m = min r 58 := ⟨_, rfl⟩
      have hmin : min (r : Int) 58 = (m : Int) := by omega
      have e : partV b0 o0 N c k = .slice (some ⟨b0, o0 + 58 * k, none⟩) m ck := by
        unfold partV
        rw [← hr, ← hm, ← hck]
      dsimp only at hy
      rw [e] at hy
      have hm1 : m ≤ r := by omega
      have i1 : (0 : Int) ≤ (m : Int) := by omega
      have i2 : (m : Int) ≤ (ck : Int) := by omega
      have i3 : (m : Int) ≤ (r : Int) := by omega
      have HJS := Hid.mk' hJs
      have HGW := Hid.mk' hgw
      have HR := Hid.mk' hr
      have HM := Hid.mk' hm
      have HCK := Hid.mk' hck
      clear e hJs hgw hr hm hck hak
      gi_wp2
      refine hR.mono ?_
      rintro e W3 ⟨rfl, hJ3, hk3⟩
      have hg3 := hk3.trans HGW.out
      obtain ⟨l3, k3, z3⟩ := HGC.out _ _ hg3
      have hset3 := HSET.out _ _ _ (.slice (adr (some ⟨b0, o0 + 58 * k, none⟩) ck m 1) (r - m) (ck - m)) hJ3 hg3
      have hg4 := heap_setOne (v' := .slice (adr (some ⟨b0, o0 + 58 * k, none⟩) ck m 1) (r - m) (ck - m)) hg3
      have HS3 := Hid.mk' hset3
      have HG4 := Hid.mk' hg4
      clear hJ3 hk3 hg3 hset3 hg4 l1 k1 z1
      gi_wp2
      go_roundw
      case rel =>
        refine ⟨k + 1, r - m, ck - m, _, hkM, by go_num, by rw [UPK.out k hlt']; exact HS3.out, HG4.out, ?_, by omega, by omega, fun h => ?_⟩
        · have := HR.out; have := HM.out; omega
        · have h1 := HR.out; have h2 := HM.out; have h3 := HCK.out
          have hm58 : m = 58 := by omega
          refine ⟨?_, by omega⟩
          rw [adr, if_neg (by omega), hm58]
          simp [Addr.add, Nat.mul_add, Nat.add_assoc]
      case measure => simp [intOf]; omega
    · have d1 : decide ((0 : Int) < (r : Int)) = false := by simp; omega
      have d1n : decide (0 < r) = false := by simp; omega
      have hkM : k = partsN N := by rw [← HMM.out]; omega
      have HKM := Hid.mk' hkM
      clear hkM
      gi_wp2
      go_end0
      refine ⟨⟨_, rfl⟩, _, rfl, ?_⟩
      rw [List.take_of_length_le (by rw [List.length_finRange, ← HKM.out]; exact Nat.le_refl _)] at hJs
      exact hJs
theorem entPieces_spec (a : Option Addr) (N c : Nat) (w : World) : Calls Try.prog 141 #[.slice a N c] w fun e w' => e = .returned (.func (.func 191) #[] #[.pointer (some ⟨w.heap.size, 0, none⟩)]) ∧ w' = w.alloc (.cells #[.slice a N c] tBytes) := by
  go_enter Try.func141, Try.ntmps141
  go_wp2_with fail
  go_ret
  exact ⟨rfl, rfl⟩
end Sh
/- bytes.Equal. -/
set_option linter.unusedVariables false
set_option linter.unusedSimpArgs false
namespace Sh
open Go Go.RowKit Go.Proofs
attribute [local go_sem ↓] Go.wp_at_zero Go.wp_at_succ
set_option maxHeartbeats 1000000
set_option maxRecDepth 100000

theorem bytesEqual_spec {w : World} {u v : Value} {l k : List UInt8} (hu : RdB w.cell? u l) (hv : RdB w.cell? v k) :
    Calls Try.prog 124 #[u, v] w fun e w' => e = .returned (.bool (decide (l = k))) ∧ w = w' := by
  have c1 := convStr hu
  have c2 := convStr hv
  go_enter Try.func124, Try.ntmps124
  go_wp2_with fail
  go_ret
  exact ⟨ret_bool (by rw [Bool.eq_iff_iff]; simp), rfl⟩
end Sh
/- A record: its cells; whether it may be; role; numbers. -/
set_option linter.unusedVariables false
set_option linter.unusedSimpArgs false
namespace Sh
open Go Go.RowKit Go.Proofs
attribute [local go_sem ↓] Go.wp_at_zero Go.wp_at_succ
set_option maxHeartbeats 1000000
set_option maxRecDepth 100000

structure Rc where
  kind : Int
  name : ByteArray
  attempt : Int
  epoch : Int
  mark : Int
  size : Int
  vs : Value
  share : List UInt8
abbrev tRec : TypeId := 108
def Rc.cells (r : Rc) : List Value := [.int .i64 r.kind, .string r.name, .int .i64 r.attempt, .int .i64 r.epoch, .int .i64 r.mark, .int .i64 r.size, r.vs]
def Rc.Rd (c : Addr → Option Value) (r : Rc) : Prop := RdB c r.vs r.share
def Rc.Sz (r : Rc) : Prop := r.name.size ≤ maxLen ∧ r.share.length ≤ 1000000
def Rc.con (r : Rc) : List Int × ByteArray × List UInt8 := ([r.kind, r.attempt, r.epoch, r.mark, r.size], r.name, r.share)
theorem Rc.Rd.le {R R' : Snap} {m : Rc} (h : m.Rd R.cell?) (l : R.le R') : m.Rd R'.cell? := Sh.Rd.le h l
theorem Rc.Rd.world {w : World} {R : Snap} {L : Asrt} {m : Rc} (h : m.Rd R.cell?) (H : Holds w R L) : m.Rd w.cell? := Sh.Rd.world h H
def rcAll (r : Rc) : Bool := decide (0 < r.attempt) && decide (0 < r.epoch) && decide (0 < r.mark)
def rcKind (r : Rc) : Bool :=
  if r.kind = 1 then decide (0 < r.attempt) && decide (r.epoch = r.attempt) && decide (r.mark = 0)
  else if r.kind = 2 ∨ r.kind = 5 then rcAll r
  else if r.kind = 3 then rcAll r && decide (r.share.length = 0)
  else if r.kind = 4 then decide (r.attempt = 0) && decide (r.epoch = 0) && decide (0 < r.mark) && decide (r.size = 0) && decide (r.share.length = 0)
  else false
def rcOk (r : Rc) : Bool := nameOk r.name && inAll 4294967295 [r.attempt, r.epoch, r.mark] && inAll 240 [r.size, (r.share.length : Int)] && rcKind r
theorem rcOk_con {m x : Rc} (h : m.con = x.con) : rcOk m = rcOk x := by
  simp only [Rc.con, Prod.mk.injEq, List.cons.injEq, and_true] at h
  obtain ⟨⟨h1, h2, h3, h4, h5⟩, h6, h7⟩ := h
  simp only [rcOk, rcKind, rcAll, h1, h2, h3, h4, h5, h6, h7]
theorem number_spec (n : Int) (w : World) : Calls Try.prog 156 #[.int .i64 n] w fun e w' => e = .returned (.bool (inOne 4294967295 n)) ∧ w = w' := by
  by_cases h0 : 0 ≤ n
  · have t0 : decide (0 ≤ n) = true := by simpa using h0
    by_cases h1 : n ≤ 4294967295
    · have t1 : decide (n ≤ 4294967295) = true := by simpa using h1
      go_enter Try.func156, Try.ntmps156
      go_wp2_with fail
      go_ret
      exact ⟨ret_bool (by simp [inOne, h0, h1]), rfl⟩
    · have t1 : decide (n ≤ 4294967295) = false := by simpa using h1
      go_enter Try.func156, Try.ntmps156
      go_wp2_with fail
      go_ret
      exact ⟨ret_bool (by simp [inOne, h1]), rfl⟩
  · have t0 : decide (0 ≤ n) = false := by simpa using h0
    go_enter Try.func156, Try.ntmps156
    go_wp2_with fail
    go_ret
    exact ⟨ret_bool (by simp [inOne]; omega), rfl⟩
def bodiesN (n : Nat) : Nat := (n + 47) / 48
theorem bodies_spec (n : Nat) (h : n ≤ 1000000) (w : World) : Calls Try.prog 157 #[.int .i64 (n : Nat)] w fun e w' => e = .returned (.int .i64 (bodiesN n : Nat)) ∧ w = w' := by
  go_enter Try.func157, Try.ntmps157
  go_wp2_with fail
  go_ret
  refine ⟨ret_int ?_, rfl⟩
  unfold bodiesN
  have e1 : IntKind.i64.wrap ((n : Int) + 48) = (n : Int) + 48 := IntWalk.i64_in _ (by omega)
  first | omega | (rw [Int.tdiv_eq_ediv_of_nonneg (by omega)]; omega)
def roleI (k : Int) : Int := if k = 2 ∨ k = 3 ∨ k = 4 then 0 else if k = 1 then 1 else if k = 5 then 2 else -1
theorem role_spec (k : Int) (w : World) : Calls Try.prog 77 #[.int .i64 k] w fun e w' => e = .returned (.int .i64 (roleI k)) ∧ w = w' := by
  by_cases h2 : k = 2
  · subst h2
    go_enter Try.func77, Try.ntmps77
    go_wp2_with fail
    go_ret
    exact ⟨rfl, rfl⟩
  by_cases h3 : k = 3
  · subst h3
    go_enter Try.func77, Try.ntmps77
    go_wp2_with fail
    go_ret
    exact ⟨rfl, rfl⟩
  by_cases h4 : k = 4
  · subst h4
    go_enter Try.func77, Try.ntmps77
    go_wp2_with fail
    go_ret
    exact ⟨rfl, rfl⟩
  by_cases h1 : k = 1
  · subst h1
    go_enter Try.func77, Try.ntmps77
    go_wp2_with fail
    go_ret
    exact ⟨rfl, rfl⟩
  by_cases h5 : k = 5
  · subst h5
    go_enter Try.func77, Try.ntmps77
    go_wp2_with fail
    go_ret
    exact ⟨rfl, rfl⟩
  have b1 : (k == 1) = false := by simpa using h1
  have b2 : (k == 2) = false := by simpa using h2
  have b3 : (k == 3) = false := by simpa using h3
  have b4 : (k == 4) = false := by simpa using h4
  have b5 : (k == 5) = false := by simpa using h5
  go_enter Try.func77, Try.ntmps77
  go_wp2_with fail
  go_ret
  exact ⟨by simp [roleI, h1, h2, h3, h4, h5], rfl⟩
theorem rrole_spec (k : Int) {w : World} {R : Snap} {L : Asrt} (H : Holds w R L) : Calls Try.prog 78 #[.int .i64 k] w fun e w' => e = .returned (.int .i64 (roleI k)) ∧ Holds w' R L := by
  by_cases h0 : k < 1
  · have t0 : decide (k < 1) = true := by simpa using h0
    go_enter Try.func78, Try.ntmps78
    go_wp2_with fail
    go_ret
    exact ⟨ret_int (by unfold roleI; rw [if_neg (by omega), if_neg (by omega), if_neg (by omega)]), H⟩
  have t0 : decide (k < 1) = false := by simpa using h0
  by_cases h6 : 5 < k
  · have t6 : decide (5 < k) = true := by simpa using h6
    go_enter Try.func78, Try.ntmps78
    go_wp2_with fail
    go_ret
    exact ⟨ret_int (by unfold roleI; rw [if_neg (by omega), if_neg (by omega), if_neg (by omega)]), H⟩
  clear t0
  rcases (show k = 1 ∨ k = 2 ∨ k = 3 ∨ k = 4 ∨ k = 5 by omega) with rfl | rfl | rfl | rfl | rfl
  all_goals
    go_enter Try.func78, Try.ntmps78
    go_wp2_with fail
    go_ret
    exact ⟨rfl, H.garbage _⟩
theorem recRight_spec {w : World} {R : Snap} {L : Asrt} (r : Rc) (H : Holds w R L) (hr : r.Rd R.cell?) (hz : r.Sz) :
    Calls Try.prog 76 #[.agg r.cells.toArray] w fun e w' => e = .returned (.bool (rcOk r)) ∧ Holds w' R L := by
  obtain ⟨x, hx⟩ : ∃ x, x = rcOk r := ⟨_, rfl⟩
  rw [← hx]
  obtain ⟨kind, name, attempt, epoch, mark, size, vs, share⟩ := r
  obtain ⟨z1, z2⟩ := hz
  have hs := hr
  simp only [Rc.Rd] at z1 z2 hs
  obtain ⟨as_, cs_, rfl⟩ := hs.form
  have HX := Hid.mk' hx
  have hR := right_spec z1
  obtain ⟨n, hn⟩ : ∃ n, n = share.length := ⟨_, rfl⟩
  have HN := Hid.mk' hn
  obtain ⟨R1, le1, H1, hb⟩ := H.allocR (.cells #[.int .i64 kind, .string name, .int .i64 attempt, .int .i64 epoch, .int .i64 mark, .int .i64 size, .slice as_ share.length cs_] tRec (0, 0))
  simp only [← hn] at hb H1
  show Calls _ _ #[.agg #[.int .i64 kind, .string name, .int .i64 attempt, .int .i64 epoch, .int .i64 mark, .int .i64 size, .slice as_ share.length cs_]] _ _
  simp only [← hn]
  have z3 : n ≤ 1000000 := by omega
  obtain ⟨l1, n1, c1⟩ := Holds.frzFacts (H1) hb
  replace H1 := H1.weaken le1
  clear hs hx H hb z1 z2 hn hr le1
  go_enter Try.func76, Try.ntmps76
  go_wp2_with fail
  refine (hR _).mono ?_
  rintro e w1 ⟨rfl, rfl⟩
  clear hR
  cases h1 : nameOk name with
  | false =>
    go_wp2_with fail
    go_ret
    exact ⟨ret_bool (HX.out.trans (by simp [rcOk, h1])).symm, H1⟩
  | true =>
  have K1 := Hid.mk' h1
  clear h1
  go_wp2_with fail
  refine (number_spec _ _).mono ?_
  rintro e w1 ⟨rfl, rfl⟩
  cases h1 : inOne 4294967295 attempt with
  | false =>
    go_wp2_with fail
    go_ret
    exact ⟨ret_bool (HX.out.trans (by simp [rcOk, inAll, h1])).symm, H1⟩
  | true =>
  have K2 := Hid.mk' h1
  clear h1
  go_wp2_with fail
  refine (number_spec _ _).mono ?_
  rintro e w1 ⟨rfl, rfl⟩
  cases h1 : inOne 4294967295 epoch with
  | false =>
    go_wp2_with fail
    go_ret
    exact ⟨ret_bool (HX.out.trans (by simp [rcOk, inAll, h1])).symm, H1⟩
  | true =>
  have K3 := Hid.mk' h1
  clear h1
  go_wp2_with fail
  refine (number_spec _ _).mono ?_
  rintro e w1 ⟨rfl, rfl⟩
  cases h1 : inOne 4294967295 mark with
  | false =>
    go_wp2_with fail
    go_ret
    exact ⟨ret_bool (HX.out.trans (by simp [rcOk, inAll, h1])).symm, H1⟩
  | true =>
  have K4 := Hid.mk' h1
  clear h1
  by_cases h1 : size < 0
  · have t1 : decide (size < 0) = true := by simpa using h1
    go_wp2_with fail
    go_ret
    exact ⟨ret_bool (HX.out.trans (by simp [rcOk, inAll, inOne]; omega)).symm, H1⟩
  have t1 : decide (size < 0) = false := by simpa using h1
  by_cases h2 : 240 < size
  · have t2 : decide (240 < size) = true := by simpa using h2
    go_wp2_with fail
    go_ret
    exact ⟨ret_bool (HX.out.trans (by simp [rcOk, inAll, inOne]; omega)).symm, H1⟩
  have t2 : decide (240 < size) = false := by simpa using h2
  by_cases h3 : 240 < n
  · have t3 : decide ((240 : Int) < (n : Int)) = true := by simp; omega
    go_wp2_with fail
    go_ret
    exact ⟨ret_bool (HX.out.trans (by have := HN.out; simp [rcOk, inAll, inOne]; omega)).symm, H1⟩
  have t3 : decide ((240 : Int) < (n : Int)) = false := by simp; omega
  go_upto_region 3 with fail
  have b1 : 0 ≤ attempt ∧ attempt ≤ 4294967295 := by have := K2.out; simpa [inOne] using this
  have b2 : 0 ≤ epoch ∧ epoch ≤ 4294967295 := by have := K3.out; simpa [inOne] using this
  have b3 : 0 ≤ mark ∧ mark ≤ 4294967295 := by have := K4.out; simpa [inOne] using this
  obtain ⟨b1, b1'⟩ := b1
  obtain ⟨b2, b2'⟩ := b2
  obtain ⟨b3, b3'⟩ := b3
  have hxx : x = rcKind (⟨kind, name, attempt, epoch, mark, size, .slice as_ share.length cs_, share⟩ : Rc) := by
    rw [HX.out, rcOk]
    have e1 : inAll 4294967295 [attempt, epoch, mark] = true := by simp [inAll, K2.out, K3.out, K4.out]
    have e2 : inAll 240 [size, (share.length : Int)] = true := by have := HN.out; simp [inAll, inOne]; omega
    simp only [K1.out, e1, e2, Bool.true_and]
  replace HX := Hid.mk' hxx
  clear hxx
  clear t1 t2 t3
  by_cases k1 : kind = 1
  · subst k1
    by_cases a1 : 0 < attempt
    · have t1 : decide (0 < attempt) = true := by simpa using a1
      have A1 := Hid.mk' a1
      clear a1
      by_cases a2 : epoch = attempt
      · subst a2
        by_cases a3 : mark = 0
        · subst a3
          go_wp2_with fail
          go_ret
          exact ⟨ret_bool (HX.out.trans (by (have hnn := HN.out); (try have h1 := A1.out); (try have h2 := A2.out); (try have h3 := A3.out); (try have h4 := A4.out); (try have h5 := A5.out); (try have h6 := HAL.out); simp only [rcKind, rcAll]; simp [-List.length_eq_zero_iff] <;> omega)).symm, H1⟩
        · have t3 : (mark == 0) = false := by simpa using a3
          have A3 := Hid.mk' a3
          clear a3
          go_wp2_with fail
          go_ret
          exact ⟨ret_bool (HX.out.trans (by (have hnn := HN.out); (try have h1 := A1.out); (try have h2 := A2.out); (try have h3 := A3.out); (try have h4 := A4.out); (try have h5 := A5.out); (try have h6 := HAL.out); simp only [rcKind, rcAll]; simp [-List.length_eq_zero_iff] <;> omega)).symm, H1⟩
      · have t2 : (epoch == attempt) = false := by simpa using a2
        have A2 := Hid.mk' a2
        clear a2
        go_wp2_with fail
        go_ret
        exact ⟨ret_bool (HX.out.trans (by (have hnn := HN.out); (try have h1 := A1.out); (try have h2 := A2.out); (try have h3 := A3.out); (try have h4 := A4.out); (try have h5 := A5.out); (try have h6 := HAL.out); simp only [rcKind, rcAll]; simp [-List.length_eq_zero_iff] <;> omega)).symm, H1⟩
    · have t1 : decide (0 < attempt) = false := by simpa using a1
      have A1 := Hid.mk' a1
      clear a1
      go_wp2_with fail
      go_ret
      exact ⟨ret_bool (HX.out.trans (by (have hnn := HN.out); (try have h1 := A1.out); (try have h2 := A2.out); (try have h3 := A3.out); (try have h4 := A4.out); (try have h5 := A5.out); (try have h6 := HAL.out); simp only [rcKind, rcAll]; simp [-List.length_eq_zero_iff] <;> omega)).symm, H1⟩
  have q1 : (kind == 1) = false := by simpa using k1
  by_cases k4 : kind = 4
  · subst k4
    clear q1 k1
    by_cases a1 : 0 < mark
    · have t1 : decide (0 < mark) = true := by simpa using a1
      have A1 := Hid.mk' a1
      clear a1
      obtain ⟨s1, hs1⟩ : ∃ s1, s1 = attempt + epoch := ⟨_, rfl⟩
      obtain ⟨s2, hs2⟩ : ∃ s2, s2 = s1 + size := ⟨_, rfl⟩
      obtain ⟨s3, hs3⟩ : ∃ s3, s3 = s2 + (n : Int) := ⟨_, rfl⟩
      have e1 : IntKind.i64.wrap (attempt + epoch) = s1 := by rw [hs1]; exact IntWalk.i64_in _ (by omega)
      have e2 : IntKind.i64.wrap (s1 + size) = s2 := by rw [hs2]; exact IntWalk.i64_in _ (by omega)
      have e3 : IntKind.i64.wrap (s2 + (n : Int)) = s3 := by rw [hs3]; exact IntWalk.i64_in _ (by omega)
      have A5 := Hid.mk' (show s3 = attempt + epoch + size + (n : Int) by omega)
      have f1 : wrap64 (attempt + epoch) = s1 := by rw [hs1]; exact IntWalk.wrap64_in _ (by omega)
      have f2 : wrap64 (s1 + size) = s2 := by rw [hs2]; exact IntWalk.wrap64_in _ (by omega)
      have f3 : wrap64 (s2 + (n : Int)) = s3 := by rw [hs3]; exact IntWalk.wrap64_in _ (by omega)
      have A6 := Hid.mk' (And.intro hs1 (And.intro hs2 hs3))
      by_cases a2 : s3 = 0
      · have t2 : (s3 == 0) = true := by simpa using a2
        have A2 := Hid.mk' a2
        clear a2
        clear hs1 hs2 hs3
        go_wp2_with fail
        go_ret
        exact ⟨ret_bool (HX.out.trans (by (have hnn := HN.out); (try have h1 := A1.out); (try have h2 := A2.out); (try have h3 := A3.out); (try have h4 := A4.out); (try have h5 := A5.out); (try have h6 := HAL.out); simp only [rcKind, rcAll]; simp [-List.length_eq_zero_iff] <;> omega)).symm, H1⟩
      · have t2 : (s3 == 0) = false := by simpa using a2
        have A2 := Hid.mk' a2
        clear a2
        clear hs1 hs2 hs3
        go_wp2_with fail
        go_ret
        exact ⟨ret_bool (HX.out.trans (by (have hnn := HN.out); (try have h1 := A1.out); (try have h2 := A2.out); (try have h3 := A3.out); (try have h4 := A4.out); (try have h5 := A5.out); (try have h6 := HAL.out); simp only [rcKind, rcAll]; simp [-List.length_eq_zero_iff] <;> omega)).symm, H1⟩
    · have t1 : decide (0 < mark) = false := by simpa using a1
      have A1 := Hid.mk' a1
      clear a1
      go_wp2_with fail
      go_ret
      exact ⟨ret_bool (HX.out.trans (by (have hnn := HN.out); (try have h1 := A1.out); (try have h2 := A2.out); (try have h3 := A3.out); (try have h4 := A4.out); (try have h5 := A5.out); (try have h6 := HAL.out); simp only [rcKind, rcAll]; simp [-List.length_eq_zero_iff] <;> omega)).symm, H1⟩
  have q4 : (kind == 4) = false := by simpa using k4
  have fin : ∀ y : Bool, y = rcAll (⟨kind, name, attempt, epoch, mark, size, .slice as_ share.length cs_, share⟩ : Rc) → (kind = 2 ∨ kind = 5 ∨ (kind = 3 ∧ n = 0)) → y = x := by
    intro y hy hk
    rw [HX.out, hy, rcKind, if_neg k1]
    have := HN.out
    rcases hk with h | h | ⟨h, h'⟩
    · rw [if_pos (.inl h)]
    · rw [if_pos (.inr h)]
    · rw [if_neg (by simp only; omega), if_pos h, decide_eq_true (by simp only; omega), Bool.and_true]
  have FIN := Hid.mk' fin
  clear fin
  by_cases k3 : kind = 3
  · subst k3
    clear k1 q1 k4 q4
    by_cases hn0 : n = 0
    · subst hn0
      have HN0 := Hid.mk' (rfl : 0 = 0)
      by_cases a1 : 0 < attempt
      · have t1 : decide (0 < attempt) = true := by simpa using a1
        have A1 := Hid.mk' a1
        clear a1
        by_cases a2 : 0 < epoch
        · have t2 : decide (0 < epoch) = true := by simpa using a2
          have A2 := Hid.mk' a2
          clear a2
          by_cases a3 : 0 < mark
          · have t3 : decide (0 < mark) = true := by simpa using a3
            have A3 := Hid.mk' a3
            clear a3
            go_wp2_with fail
            go_ret
            exact ⟨ret_bool (FIN.out _ (by (try have h1 := A1.out); (try have h2 := A2.out); (try have h3 := A3.out); simp only [rcAll]; simp <;> omega) (by first | trivial | exact HN0.out | simp [HN0.out] | simp)), H1⟩
          · have t3 : decide (0 < mark) = false := by simpa using a3
            have A3 := Hid.mk' a3
            clear a3
            go_wp2_with fail
            go_ret
            exact ⟨ret_bool (FIN.out _ (by (try have h1 := A1.out); (try have h2 := A2.out); (try have h3 := A3.out); simp only [rcAll]; simp <;> omega) (by first | trivial | exact HN0.out | simp [HN0.out] | simp)), H1⟩
        · have t2 : decide (0 < epoch) = false := by simpa using a2
          have A2 := Hid.mk' a2
          clear a2
          go_wp2_with fail
          go_ret
          exact ⟨ret_bool (FIN.out _ (by (try have h1 := A1.out); (try have h2 := A2.out); (try have h3 := A3.out); simp only [rcAll]; simp <;> omega) (by first | trivial | exact HN0.out | simp [HN0.out] | simp)), H1⟩
      · have t1 : decide (0 < attempt) = false := by simpa using a1
        have A1 := Hid.mk' a1
        clear a1
        go_wp2_with fail
        go_ret
        exact ⟨ret_bool (FIN.out _ (by (try have h1 := A1.out); (try have h2 := A2.out); (try have h3 := A3.out); simp only [rcAll]; simp <;> omega) (by first | trivial | exact HN0.out | simp [HN0.out] | simp)), H1⟩
    · have t0 : decide ((0 : Int) < (n : Int)) = true := by simp; omega
      have t1 : 0 < n := by omega
      have A1 := Hid.mk' hn0
      clear hn0
      go_wp2_with fail
      go_ret
      exact ⟨ret_bool (HX.out.trans (by (have hnn := HN.out); (try have h1 := A1.out); (try have h2 := A2.out); (try have h3 := A3.out); (try have h4 := A4.out); (try have h5 := A5.out); (try have h6 := HAL.out); simp only [rcKind, rcAll]; simp [-List.length_eq_zero_iff] <;> omega)).symm, H1⟩
  have q3 : (kind == 3) = false := by simpa using k3
  by_cases k2 : kind = 2
  · subst k2
    clear k1 q1 k4 q4 k3 q3
    by_cases a1 : 0 < attempt
    · have t1 : decide (0 < attempt) = true := by simpa using a1
      have A1 := Hid.mk' a1
      clear a1
      by_cases a2 : 0 < epoch
      · have t2 : decide (0 < epoch) = true := by simpa using a2
        have A2 := Hid.mk' a2
        clear a2
        by_cases a3 : 0 < mark
        · have t3 : decide (0 < mark) = true := by simpa using a3
          have A3 := Hid.mk' a3
          clear a3
          go_wp2_with fail
          go_ret
          exact ⟨ret_bool (FIN.out _ (by (try have h1 := A1.out); (try have h2 := A2.out); (try have h3 := A3.out); simp only [rcAll]; simp <;> omega) (by first | trivial | exact HN0.out | simp [HN0.out] | simp)), H1⟩
        · have t3 : decide (0 < mark) = false := by simpa using a3
          have A3 := Hid.mk' a3
          clear a3
          go_wp2_with fail
          go_ret
          exact ⟨ret_bool (FIN.out _ (by (try have h1 := A1.out); (try have h2 := A2.out); (try have h3 := A3.out); simp only [rcAll]; simp <;> omega) (by first | trivial | exact HN0.out | simp [HN0.out] | simp)), H1⟩
      · have t2 : decide (0 < epoch) = false := by simpa using a2
        have A2 := Hid.mk' a2
        clear a2
        go_wp2_with fail
        go_ret
        exact ⟨ret_bool (FIN.out _ (by (try have h1 := A1.out); (try have h2 := A2.out); (try have h3 := A3.out); simp only [rcAll]; simp <;> omega) (by first | trivial | exact HN0.out | simp [HN0.out] | simp)), H1⟩
    · have t1 : decide (0 < attempt) = false := by simpa using a1
      have A1 := Hid.mk' a1
      clear a1
      go_wp2_with fail
      go_ret
      exact ⟨ret_bool (FIN.out _ (by (try have h1 := A1.out); (try have h2 := A2.out); (try have h3 := A3.out); simp only [rcAll]; simp <;> omega) (by first | trivial | exact HN0.out | simp [HN0.out] | simp)), H1⟩
  have q2 : (kind == 2) = false := by simpa using k2
  by_cases k5 : kind = 5
  · subst k5
    clear k1 q1 k4 q4 k3 q3 k2 q2
    by_cases a1 : 0 < attempt
    · have t1 : decide (0 < attempt) = true := by simpa using a1
      have A1 := Hid.mk' a1
      clear a1
      by_cases a2 : 0 < epoch
      · have t2 : decide (0 < epoch) = true := by simpa using a2
        have A2 := Hid.mk' a2
        clear a2
        by_cases a3 : 0 < mark
        · have t3 : decide (0 < mark) = true := by simpa using a3
          have A3 := Hid.mk' a3
          clear a3
          go_wp2_with fail
          go_ret
          exact ⟨ret_bool (FIN.out _ (by (try have h1 := A1.out); (try have h2 := A2.out); (try have h3 := A3.out); simp only [rcAll]; simp <;> omega) (by first | trivial | exact HN0.out | simp [HN0.out] | simp)), H1⟩
        · have t3 : decide (0 < mark) = false := by simpa using a3
          have A3 := Hid.mk' a3
          clear a3
          go_wp2_with fail
          go_ret
          exact ⟨ret_bool (FIN.out _ (by (try have h1 := A1.out); (try have h2 := A2.out); (try have h3 := A3.out); simp only [rcAll]; simp <;> omega) (by first | trivial | exact HN0.out | simp [HN0.out] | simp)), H1⟩
      · have t2 : decide (0 < epoch) = false := by simpa using a2
        have A2 := Hid.mk' a2
        clear a2
        go_wp2_with fail
        go_ret
        exact ⟨ret_bool (FIN.out _ (by (try have h1 := A1.out); (try have h2 := A2.out); (try have h3 := A3.out); simp only [rcAll]; simp <;> omega) (by first | trivial | exact HN0.out | simp [HN0.out] | simp)), H1⟩
    · have t1 : decide (0 < attempt) = false := by simpa using a1
      have A1 := Hid.mk' a1
      clear a1
      go_wp2_with fail
      go_ret
      exact ⟨ret_bool (FIN.out _ (by (try have h1 := A1.out); (try have h2 := A2.out); (try have h3 := A3.out); simp only [rcAll]; simp <;> omega) (by first | trivial | exact HN0.out | simp [HN0.out] | simp)), H1⟩
  have q5 : (kind == 5) = false := by simpa using k5
  have A1 := Hid.mk' (show ¬ kind = 1 ∧ ¬ kind = 2 ∧ ¬ kind = 3 ∧ ¬ kind = 4 ∧ ¬ kind = 5 from ⟨k1, k2, k3, k4, k5⟩)
  clear k1 k2 k3 k4 k5
  go_wp2_with fail
  go_ret
  obtain ⟨k1, k2, k3, k4, k5⟩ := A1.out
  exact ⟨ret_bool (HX.out.trans (by simp [rcKind, k1, k2, k3, k4, k5])).symm, H1⟩
end Sh
/- record.pieces: what its function value does, for every body. -/
set_option linter.unusedVariables false
set_option linter.unusedSimpArgs false
namespace Sh
open Go Go.RowKit Go.Proofs
attribute [local go_sem ↓] Go.wp_at_zero Go.wp_at_succ
set_option maxHeartbeats 1000000
set_option maxRecDepth 100000
attribute [local go_sem] Oper.semAt_some

/-- The part of so many bytes that comes i-th. -/
def pieceV (b o N c i : Nat) : Value := .slice (some ⟨b, o + i * 48, none⟩) (min ((i + 1) * 48) N - i * 48) (c - i * 48)
theorem recPieces_in (n : Nat) (hn : 1 ≤ n) (l g N c b0 o0 : Nat) (a : Option Addr) (ha : 0 < N → a = some ⟨b0, o0, none⟩) (hN : N ≤ 100000) (hc : N ≤ c) (hc9 : c ≤ maxLen) (J Jx : List (Fin (bodiesN N)) → World → Prop)
    (hY : ∀ pre x W, J pre W → pre.length < bodiesN N → YieldAt Fence.wide (n - 1) Try.prog l #[.int .i64 (x.1 : Nat), pieceV b0 o0 N c x.1] W fun e W' =>
      (e = .returned (.bool true) ∧ J (pre ++ [x]) W' ∧ W'.heap[g]? = W.heap[g]?) ∨ (e = .returned (.bool false) ∧ Jx (pre ++ [x]) W'))
    (W : World) (hg : W.heap[g]? = some (.cells #[.slice a N c] tBytes (0, 0))) (h0 : J [] W) :
    CallsIn Fence.wide n Try.prog 193 #[.func (.yield l) #[] #[], .pointer (some ⟨g, 0, none⟩)] W fun e W' => (∃ v, e = .returned v) ∧
      ((∃ ys, ys = List.finRange (bodiesN N) ∧ J ys W') ∨ (∃ pre, True ∧ Jx pre W')) := by
  have hgc : ∀ W' : World, W'.heap[g]? = some (.cells #[.slice a N c] tBytes (0, 0)) → ∀ o, W'.cell? ⟨g, o, none⟩ = #[Value.slice a N c][o]? := fun W' h o => by unfold World.cell?; rw [h]; rfl
  have HG := Hid.mk' hg
  have k0 := hgc W hg
  clear hg
  refine callsIn_of_wp Try.func193 rfl trivial ?_ rfl
  simp only [Try.ntmps193, List.size_toArray, List.length_cons, List.length_nil, Nat.reduceAdd, Nat.reduceSub, Array.replicate_succ, Array.replicate_zero, List.push_toArray, List.append_toArray, List.nil_append, List.cons_append]
  gi_wp2_with (refine ⟨trivial, ?_⟩; gi_at_call 157; refine (callsIn_wide.2 (bodies_spec N (by omega) _)).mono ?_; rintro e w' ⟨rfl, rfl⟩)
  have hM : 48 * bodiesN N < N + 48 ∧ N ≤ 48 * bodiesN N := by unfold bodiesN; omega
  obtain ⟨hM1, hM2⟩ := hM
  have upk : ∀ k (h : k < bodiesN N), (List.finRange (bodiesN N)).take (k + 1) = (List.finRange (bodiesN N)).take k ++ [⟨k, h⟩] := fun k h => by
    rw [List.take_succ_eq_append_getElem (by rw [List.length_finRange]; exact h)]
    simp
  have UPK := Hid.mk' upk
  have upl : ∀ k, k ≤ bodiesN N → ((List.finRange (bodiesN N)).take k).length = k := fun k h => by
    rw [List.length_take, List.length_finRange]; omega
  have UPL := Hid.mk' upl
  obtain ⟨M, hMM⟩ : ∃ M, M = bodiesN N := ⟨_, rfl⟩
  have HA := Hid.mk' ha
  have HGC := Hid.mk' hgc
  have HY := Hid.mk' hY
  have HMM := Hid.mk' hMM
  rw [← hMM] at hM1 hM2
  clear ha hgc hY upk upl hMM
  simp only [← HMM.out]
  gi_loopw [7] (fun i wr => ∃ k : Nat, k ≤ M ∧ i = .int .i64 k ∧ J ((List.finRange (bodiesN N)).take k) wr ∧ wr.heap[g]? = some (.cells #[.slice a N c] tBytes (0, 0))) (fun i _ => M - (intOf i).toNat)
  case atStart => exact ⟨0, Nat.zero_le _, rfl, h0, HG.out⟩
  case round =>
    clear h0 k0
    obtain ⟨k, hk, rfl, hJs, hgw⟩ := hrel
    by_cases hlt : k < M
    · have d1 : decide ((k : Int) < (M : Int)) = true := by simp; omega
      have hlt' : k < bodiesN N := by rw [← HMM.out]; exact hlt
      obtain ⟨fn, tmps, assign, body, hy, hR⟩ := HY.out _ ⟨k, hlt'⟩ wr hJs (by rw [UPL.out k (by omega)]; exact hlt')
      obtain rfl := HA.out (by omega)
      have kc := HGC.out wr hgw
      have e : pieceV b0 o0 N c k = .slice (some ⟨b0, o0 + k * 48, none⟩) ((min (((k : Int) + 1) * 48) (N : Int)).toNat - k * 48) (c - k * 48) := by
        unfold pieceV
        rw [show (min (((k : Int) + 1) * 48) (N : Int)).toNat = min ((k + 1) * 48) N by omega]
      dsimp only at hy
      rw [e] at hy
      clear e
      gi_wp2
      refine hR.mono ?_
      rintro e W3 (⟨rfl, hJ3, hk3⟩ | ⟨rfl, hJx3⟩)
      · gi_wp2
        go_roundw
        case rel => exact ⟨k + 1, hlt, by go_num, by rw [UPK.out k hlt']; exact hJ3, hk3.trans hgw⟩
        case measure => simp [intOf]; omega
      · gi_wp2
        refine bodyPost_ret (results_none rfl _ _ _) rfl ?_
        exact ⟨⟨_, rfl⟩, .inr ⟨_, trivial, hJx3⟩⟩
    · have d1 : decide ((k : Int) < (M : Int)) = false := by simp; omega
      gi_wp2
      go_end0
      refine ⟨⟨_, rfl⟩, .inl ⟨_, rfl, ?_⟩⟩
      rw [List.take_of_length_le (by rw [List.length_finRange, ← HMM.out]; omega)] at hJs
      exact hJs
theorem recPieces_stops (n : Nat) (hn : 1 ≤ n) (g N c b0 o0 : Nat) (a : Option Addr) (ha : 0 < N → a = some ⟨b0, o0, none⟩) (hN : N ≤ 100000) (hc : N ≤ c) (hc9 : c ≤ maxLen) (w : World) (hg : w.heap[g]? = some (.cells #[.slice a N c] tBytes (0, 0))) :
    SeqStopsK Fence.wide n Try.prog 193 #[.pointer (some ⟨g, 0, none⟩)] (fun x : Fin (bodiesN N) => #[.int .i64 (x.1 : Nat), pieceV b0 o0 N c x.1]) (fun W W' => W'.heap[g]? = W.heap[g]?) (fun ys => ys = List.finRange (bodiesN N)) (fun _ => True) (bodiesN N) w := fun l J Jx W hW _ _ hY h0 =>
  recPieces_in n hn l g N c b0 o0 a ha hN hc hc9 J Jx hY W ((hW.block g (Array.getElem?_eq_some_iff.1 hg).1).trans hg) h0
theorem recPieces_spec (a : Option Addr) (N c : Nat) (w : World) : Calls Try.prog 155 #[.slice a N c] w fun e w' => e = .returned (.func (.func 193) #[] #[.pointer (some ⟨w.heap.size, 0, none⟩)]) ∧ w' = w.alloc (.cells #[.slice a N c] tBytes) := by
  go_enter Try.func155, Try.ntmps155
  go_wp2_with fail
  go_ret
  exact ⟨rfl, rfl⟩
end Sh
/- A name's bytes: label.Put and its reference. -/
set_option linter.unusedVariables false
set_option linter.unusedSimpArgs false
namespace Sh
open Go Go.RowKit Go.Proofs
attribute [local go_sem ↓] Go.wp_at_zero Go.wp_at_succ
set_option maxHeartbeats 1000000
set_option maxRecDepth 100000

def nameB (s : ByteArray) : List UInt8 := nb 1 (s.size : Int) ++ (s.data.toList ++ List.replicate (16 - s.size) 0)
theorem nameOk_le {s : ByteArray} (h : nameOk s = true) : s.size ≤ 16 := by
  simp only [nameOk, nameL, decide_eq_true_eq] at h
  have := h.2.1
  simpa using this
theorem strB_sz (s : ByteArray) : (strB s).length = s.size := by simp [strB]
theorem lput_spec {w : World} {R : Snap} {L : Asrt} {p : Nat} {l : List UInt8} {s : ByteArray} (H : Holds w R (star (wr p l) L)) (hl : l.length ≤ 900000) (hok : nameOk s = true) :
    Calls Try.prog 154 #[.pointer (some ⟨p, 0, none⟩), .string s] w fun e w' => e = .returned (.tuple #[]) ∧ Holds w' R (star (wr p (l ++ nameB s)) L) := by
  have hs := nameOk_le hok
  have hmx : s.size ≤ maxLen := by simp only [maxLen]; omega
  have hR := right_spec hmx
  have HM := Hid.mk' hmx
  obtain ⟨n, hn⟩ : ∃ n, n = s.size := ⟨_, rfl⟩
  have HN := Hid.mk' hn
  have hsz : (s.size : Int) = (n : Int) := by omega
  rw [← hn] at hs
  clear hn
  have HOK := Hid.mk' hok
  clear hok hmx
  go_enter Try.func154, Try.ntmps154
  go_wp2_with fail
  refine (hR _).mono ?_
  rintro e w1 ⟨rfl, rfl⟩
  rw [HOK.out]
  go_wp2_with fail
  refine (num_spec H (by omega) (by omega)).mono ?_
  rintro e w2 ⟨rfl, H2⟩
  clear H hR
  obtain ⟨a3, c3, w3, hconv, R3, le3, H3, hr3⟩ := convBytes H2 HM.out
  rw [← HN.out] at hconv hr3
  go_wp2_with fail
  have hl2 : (l ++ nb 1 (n : Int)).length ≤ 900001 := by rw [List.length_append, nb_length]; have := wid_bd 1; have : wid 1 = 1 := rfl; omega
  refine (raw_spec H3 (by omega) (by rw [strB_sz, ← HN.out]; omega) (Rd.world hr3 H3)).mono ?_
  rintro e w4 ⟨rfl, H4⟩
  obtain ⟨k, hk⟩ : ∃ k, k = 16 - n := ⟨_, rfl⟩
  have e1 : (16 : Int) - (n : Int) = (k : Int) := by omega
  have e2 : wrap64 (k : Int) = (k : Int) := IntWalk.wrap64_in _ (by omega)
  have HK := Hid.mk' hk
  have hk9 : k ≤ 16 := by omega
  clear H2 H3 hconv hr3 hk
  go_wp2_with (with_reducible refine stop_make ?_)
  refine Hold.go (wpList_makeB (n := k) rfl _ _ rfl rfl rfl H4 (by omega) ?_)
  intro v5 w5 H5
  go_wp2_with fail
  refine (raw_spec H5.swap (by rw [List.length_append, strB_sz, ← HN.out]; omega) (by rw [List.length_replicate]; omega) H5.rowRd).mono ?_
  rintro e w6 ⟨rfl, H6⟩
  go_wp2_with fail
  go_end0
  refine ⟨rfl, ?_⟩
  have e : l ++ nb 1 (n : Int) ++ strB s ++ List.replicate k 0 = l ++ nameB s := by
    rw [nameB, ← HN.out, HK.out]; simp [strB]
  rw [e] at H6
  exact (H6.swap.drop).weaken le3
end Sh
