/- RecPieces LabelPut Sector Disk DiskNew: joined texts, each with its own sentence below. -/
import Derived.Test.YtmogagcffebbaaaEn8
import Derived.RangeFuncBox
import Derived.TacticsInMore
import Derived.LoopNIn
import Derived.LoopIn
import Derived.Test.YtmogagcffebbaaaEn3
import Derived.Test.YtmogagcffebbaaaEn5
import Derived.Test.YtmogagcffebbaaaEn2
import Derived.Stop.BytesEq
import Derived.Laws.Rows
/- record.pieces: what its function value does, for every body. -/
set_option linter.unusedVariables false
set_option linter.unusedSimpArgs false
namespace Sh
open Go Go.RowKit Go.Proofs
attribute [local go_sem ↓] Go.wp_at_zero Go.wp_at_succ
set_option maxHeartbeats 1000000
set_option maxRecDepth 100000
attribute [local go_sem] Oper.semAt_some

/-- The part of so many bytes that comes i-th. -/
def pieceV (b o N c i : Nat) : Value := .slice (some ⟨b, o + i * 48, none⟩) (min ((i + 1) * 48) N - i * 48) (c - i * 48)
theorem recPieces_in (n : Nat) (hn : 1 ≤ n) (l g N c b0 o0 : Nat) (a : Option Addr) (ha : 0 < N → a = some ⟨b0, o0, none⟩) (hN : N ≤ 100000) (hc : N ≤ c) (hc9 : c ≤ maxLen) (J Jx : List (Fin (bodiesN N)) → World → Prop)
    (hY : ∀ pre x W, J pre W → pre.length < bodiesN N → YieldAt Fence.wide (n - 1) Try.prog l #[.int .i64 (x.1 : Nat), pieceV b0 o0 N c x.1] W fun e W' =>
      (e = .returned (.bool true) ∧ J (pre ++ [x]) W' ∧ W'.heap[g]? = W.heap[g]?) ∨ (e = .returned (.bool false) ∧ Jx (pre ++ [x]) W'))
    (W : World) (hg : W.heap[g]? = some (.cells #[.slice a N c] tBytes (0, 0))) (h0 : J [] W) :
    CallsIn Fence.wide n Try.prog 193 #[.func (.yield l) #[] #[], .pointer (some ⟨g, 0, none⟩)] W fun e W' => (∃ v, e = .returned v) ∧
      ((∃ ys, ys = List.finRange (bodiesN N) ∧ J ys W') ∨ (∃ pre, True ∧ Jx pre W')) := by
  have hgc : ∀ W' : World, W'.heap[g]? = some (.cells #[.slice a N c] tBytes (0, 0)) → ∀ o, W'.cell? ⟨g, o, none⟩ = #[Value.slice a N c][o]? := fun W' h o => by unfold World.cell?; rw [h]; rfl
  have HG := Hid.mk' hg
  have k0 := hgc W hg
  clear hg
  refine callsIn_of_wp Try.func193 rfl trivial ?_ rfl
  simp only [Try.ntmps193, List.size_toArray, List.length_cons, List.length_nil, Nat.reduceAdd, Nat.reduceSub, Array.replicate_succ, Array.replicate_zero, List.push_toArray, List.append_toArray, List.nil_append, List.cons_append]
  gi_wp2_with (refine ⟨trivial, ?_⟩; gi_at_call 157; refine (callsIn_wide.2 (bodies_spec N (by omega) _)).mono ?_; rintro e w' ⟨rfl, rfl⟩)
  have hM : 48 * bodiesN N < N + 48 ∧ N ≤ 48 * bodiesN N := by unfold bodiesN; omega
  obtain ⟨hM1, hM2⟩ := hM
  have upk : ∀ k (h : k < bodiesN N), (List.finRange (bodiesN N)).take (k + 1) = (List.finRange (bodiesN N)).take k ++ [⟨k, h⟩] := fun k h => by
    rw [List.take_succ_eq_append_getElem (by rw [List.length_finRange]; exact h)]
    simp
  have UPK := Hid.mk' upk
  have upl : ∀ k, k ≤ bodiesN N → ((List.finRange (bodiesN N)).take k).length = k := fun k h => by
    rw [List.length_take, List.length_finRange]; omega
  have UPL := Hid.mk' upl
  obtain ⟨M, hMM⟩ : ∃ M, M = bodiesN N := ⟨_, rfl⟩
  have HA := Hid.mk' ha
  have HGC := Hid.mk' hgc
  have HY := Hid.mk' hY
  have HMM := Hid.mk' hMM
  rw [← hMM] at hM1 hM2
  clear ha hgc hY upk upl hMM
  simp only [← HMM.out]
  gi_loopw [7] (fun i wr => ∃ k : Nat, k ≤ M ∧ i = .int .i64 k ∧ J ((List.finRange (bodiesN N)).take k) wr ∧ wr.heap[g]? = some (.cells #[.slice a N c] tBytes (0, 0))) (fun i _ => M - (intOf i).toNat)
  case atStart => exact ⟨0, Nat.zero_le _, rfl, h0, HG.out⟩
  case round =>
    clear h0 k0
    obtain ⟨k, hk, rfl, hJs, hgw⟩ := hrel
    by_cases hlt : k < M
    · have d1 : decide ((k : Int) < (M : Int)) = true := by simp; omega
      have hlt' : k < bodiesN N := by rw [← HMM.out]; exact hlt
      obtain ⟨fn, tmps, assign, body, hy, hR⟩ := HY.out _ ⟨k, hlt'⟩ wr hJs (by rw [UPL.out k (by omega)]; exact hlt')
      obtain rfl := HA.out (by omega)
      have kc := HGC.out wr hgw
      have e : pieceV b0 o0 N c k = .slice (some ⟨b0, o0 + k * 48, none⟩) ((min (((k : Int) + 1) * 48) (N : Int)).toNat - k * 48) (c - k * 48) := by
        unfold pieceV
        rw [show (min (((k : Int) + 1) * 48) (N : Int)).toNat = min ((k + 1) * 48) N by omega]
      dsimp only at hy
      rw [e] at hy
      clear e
      gi_wp2
      refine hR.mono ?_
      rintro e W3 (⟨rfl, hJ3, hk3⟩ | ⟨rfl, hJx3⟩)
      · gi_wp2
        go_roundw
        case rel => exact ⟨k + 1, hlt, by go_num, by rw [UPK.out k hlt']; exact hJ3, hk3.trans hgw⟩
        case measure => simp [intOf]; omega
      · gi_wp2
        refine bodyPost_ret (results_none rfl _ _ _) rfl ?_
        exact ⟨⟨_, rfl⟩, .inr ⟨_, trivial, hJx3⟩⟩
    · have d1 : decide ((k : Int) < (M : Int)) = false := by simp; omega
      gi_wp2
      go_end0
      refine ⟨⟨_, rfl⟩, .inl ⟨_, rfl, ?_⟩⟩
      rw [List.take_of_length_le (by rw [List.length_finRange, ← HMM.out]; omega)] at hJs
      exact hJs
theorem recPieces_stops (n : Nat) (hn : 1 ≤ n) (g N c b0 o0 : Nat) (a : Option Addr) (ha : 0 < N → a = some ⟨b0, o0, none⟩) (hN : N ≤ 100000) (hc : N ≤ c) (hc9 : c ≤ maxLen) (w : World) (hg : w.heap[g]? = some (.cells #[.slice a N c] tBytes (0, 0))) :
    SeqStopsK Fence.wide n Try.prog 193 #[.pointer (some ⟨g, 0, none⟩)] (fun x : Fin (bodiesN N) => #[.int .i64 (x.1 : Nat), pieceV b0 o0 N c x.1]) (fun W W' => W'.heap[g]? = W.heap[g]?) (fun ys => ys = List.finRange (bodiesN N)) (fun _ => True) (bodiesN N) w := fun l J Jx W hW _ _ hY h0 =>
  recPieces_in n hn l g N c b0 o0 a ha hN hc hc9 J Jx hY W ((hW.block g (Array.getElem?_eq_some_iff.1 hg).1).trans hg) h0
theorem recPieces_spec (a : Option Addr) (N c : Nat) (w : World) : Calls Try.prog 155 #[.slice a N c] w fun e w' => e = .returned (.func (.func 193) #[] #[.pointer (some ⟨w.heap.size, 0, none⟩)]) ∧ w' = w.alloc (.cells #[.slice a N c] tBytes) := by
  go_enter Try.func155, Try.ntmps155
  go_wp2_with fail
  go_ret
  exact ⟨rfl, rfl⟩
end Sh
/- A name's bytes: label.Put and its reference. -/
set_option linter.unusedVariables false
set_option linter.unusedSimpArgs false
namespace Sh
open Go Go.RowKit Go.Proofs
attribute [local go_sem ↓] Go.wp_at_zero Go.wp_at_succ
set_option maxHeartbeats 1000000
set_option maxRecDepth 100000

def nameB (s : ByteArray) : List UInt8 := nb 1 (s.size : Int) ++ (s.data.toList ++ List.replicate (16 - s.size) 0)
theorem nameOk_le {s : ByteArray} (h : nameOk s = true) : s.size ≤ 16 := by
  simp only [nameOk, nameL, decide_eq_true_eq] at h
  have := h.2.1
  simpa using this
theorem strB_sz (s : ByteArray) : (strB s).length = s.size := by simp [strB]
theorem lput_spec {w : World} {R : Snap} {L : Asrt} {p : Nat} {l : List UInt8} {s : ByteArray} (H : Holds w R (star (wr p l) L)) (hl : l.length ≤ 900000) (hok : nameOk s = true) :
    Calls Try.prog 154 #[.pointer (some ⟨p, 0, none⟩), .string s] w fun e w' => e = .returned (.tuple #[]) ∧ Holds w' R (star (wr p (l ++ nameB s)) L) := by
  have hs := nameOk_le hok
  have hmx : s.size ≤ maxLen := by simp only [maxLen]; omega
  have hR := right_spec hmx
  have HM := Hid.mk' hmx
  obtain ⟨n, hn⟩ : ∃ n, n = s.size := ⟨_, rfl⟩
  have HN := Hid.mk' hn
  have hsz : (s.size : Int) = (n : Int) := by omega
  rw [← hn] at hs
  clear hn
  have HOK := Hid.mk' hok
  clear hok hmx
  go_enter Try.func154, Try.ntmps154
  go_wp2_with fail
  refine (hR _).mono ?_
  rintro e w1 ⟨rfl, rfl⟩
  rw [HOK.out]
  go_wp2_with fail
  refine (num_spec H (by omega) (by omega)).mono ?_
  rintro e w2 ⟨rfl, H2⟩
  clear H hR
  obtain ⟨a3, c3, w3, hconv, R3, le3, H3, hr3⟩ := convBytes H2 HM.out
  rw [← HN.out] at hconv hr3
  go_wp2_with fail
  have hl2 : (l ++ nb 1 (n : Int)).length ≤ 900001 := by rw [List.length_append, nb_length]; have := wid_bd 1; have : wid 1 = 1 := rfl; omega
  refine (raw_spec H3 (by omega) (by rw [strB_sz, ← HN.out]; omega) (Rd.world hr3 H3)).mono ?_
  rintro e w4 ⟨rfl, H4⟩
  obtain ⟨k, hk⟩ : ∃ k, k = 16 - n := ⟨_, rfl⟩
  have e1 : (16 : Int) - (n : Int) = (k : Int) := by omega
  have e2 : wrap64 (k : Int) = (k : Int) := IntWalk.wrap64_in _ (by omega)
  have HK := Hid.mk' hk
  have hk9 : k ≤ 16 := by omega
  clear H2 H3 hconv hr3 hk
  go_wp2_with (with_reducible refine stop_make ?_)
  refine Hold.go (wpList_makeB (n := k) rfl _ _ rfl rfl rfl H4 (by omega) ?_)
  intro v5 w5 H5
  go_wp2_with fail
  refine (raw_spec H5.swap (by rw [List.length_append, strB_sz, ← HN.out]; omega) (by rw [List.length_replicate]; omega) H5.rowRd).mono ?_
  rintro e w6 ⟨rfl, H6⟩
  go_wp2_with fail
  go_end0
  refine ⟨rfl, ?_⟩
  have e : l ++ nb 1 (n : Int) ++ strB s ++ List.replicate k 0 = l ++ nameB s := by
    rw [nameB, ← HN.out, HK.out]; simp [strB]
  rw [e] at H6
  exact (H6.swap.drop).weaken le3
end Sh
/- sector's contracts: Seal, Open, Clear. -/
set_option linter.unusedVariables false
set_option linter.unusedSimpArgs false
namespace Sh
open Go Go.RowKit Go.Proofs
attribute [local go_sem ↓] Go.wp_at_zero Go.wp_at_succ
set_option maxHeartbeats 1000000
set_option maxRecDepth 100000

theorem stop_load {P : Program} {ops : Array Oper} {Q : Exit → Act → World → Prop} {d : Option Tmp} {x : Operand} {t ty : TypeId} {pos : String} {af : Array Edge} {g : Option (Nat × Bool)} {rest : List Oper} {a : Act} {w : World}
    (h : Hold (wpList P ops Q (⟨d, .load t x, ty, pos, af, g⟩ :: rest) a w)) : wpList P ops Q (⟨d, .load t x, ty, pos, af, g⟩ :: rest) a w := h
theorem wpList_wanted {P : Program} {ops : Array Oper} {Q : Exit → Act → World → Prop} {o : Oper} {rest : List Oper} {a : Act} {w : World} (hw : Region.wanted o (yielded ops a.tmps) = true)
    (h : ∀ K : Act → World → Prop, (∀ a w, wpList P ops Q rest a w → K a w) → o.wp P a w K Q) : wpList P ops Q (o :: rest) a w :=
  wpList_step fun K hK => by rw [if_pos hw]; exact h K hK
theorem wp_copy_own {P : Program} {w : World} {o : Oper} {a : Act} {K : Act → World → Prop} {Q : Exit → Act → World → Prop} (d s : Operand) (dT sT : TypeId)
    (ho : o.op = .call { callee := .builtin .copy, args := #[d, s], argTypes := #[dT, sT] }) (elem : TypeId) (hu : P.underlying dT = some (.slice elem)) (hsz : (P.info? elem).map (·.size) = some 1)
    (g off dLen dCap : Nat) (ad : Addr) (sLen sCap : Nat) (hd : a.eval d = .slice (some ⟨g, off, none⟩) dLen dCap) (hs : a.eval s = .slice (some ad) sLen sCap)
    (cur : Array Value) (t : TypeId) (hg : w.heap[g]? = some (.cells cur t (0, 0))) (cs : List Value) (hn : cs.length = Nat.min sLen dLen)
    (hsrc : ∀ j v, cs[j]? = some v → w.cell? (ad.add j) = some v) (hfit : off + cs.length ≤ cur.size) (h1 : ∀ v ∈ cs, v.oneCell' = true)
    (h : K (a.put o.dst (goInt cs.length)) (w.setRow g (cur.toList.take off ++ (cs ++ cur.toList.drop (off + cs.length))).toArray)) : o.wp P a w K Q := by
  have hrun := run_copy_row (P := P) w dT sT o.type elem g off dLen dCap ad sLen sCap cur t cs hu hsz hg hn hsrc hfit h1
  unfold Oper.wp
  simp [execOp, ho, resolve, invoke, builtin, hd, hs, hrun, Result.andThen]
  exact h
theorem Holds.blkAll {w : World} {R : Snap} {L : Asrt} {b : Nat} {cs cs2 : Array Value} {t : TypeId} (H : Holds w R (star (Sh.blk b cs t) L)) : Holds (w.setRow b cs2) R (star (Sh.blk b cs2 t) L) := by
  obtain ⟨F, ⟨hF, hF'⟩, k⟩ := H.upd
  exact k _ _ F ⟨setRow_heap w b cs cs2 t _ hF, hF'⟩ rfl rfl rfl (fun i hi hn => setRow_other w b i cs2 (fun h => hn ((hF' i).2 h))) (fun i hi => .inl hi)

theorem stop_eqlArr {P : Program} {ops : Array Oper} {Q : Exit → Act → World → Prop} {d : Option Tmp} {x y : Operand} {t2 ty : TypeId} {pos : String} {af : Array Edge} {g : Option (Nat × Bool)} {rest : List Oper} {a : Act} {w : World}
    (h : Hold (wpList P ops Q (⟨d, .binOp .eql 214 x y t2, ty, pos, af, g⟩ :: rest) a w)) : wpList P ops Q (⟨d, .binOp .eql 214 x y t2, ty, pos, af, g⟩ :: rest) a w := h
abbrev tSec : TypeId := 214
theorem wp_eqlArr {w : World} {o : Oper} {a : Act} {K : Act → World → Prop} {Q : Exit → Act → World → Prop} (x y : Operand) (t2 : TypeId) (ho : o.op = .binOp .eql tSec x y t2) (l k : List UInt8) (hl : l.length = 64) (hk : k.length = 64)
    (hx : a.eval x = .agg (u8s l).toArray) (hy : a.eval y = .agg (u8s k).toArray) (h : K (a.put o.dst (.bool (l == k))) w) : o.wp Try.prog a w K Q := by
  have h1 := run_eql_bytes (P := Try.prog) w tSec tU8 64 Try.underlying214 Try.underlying5 (fun w => by kernel_rfl) l k hl hk
  have h2 := run_eqGuard_agg (P := Try.prog) w .eql tSec x y (u8s l).toArray (u8s k).toArray Try.eqGuardType214
  have e : ∀ l : List UInt8, l.map Extern.Stop.cell = u8s l := fun l => rfl
  rw [e, e] at h1
  unfold Oper.wp execOp
  simp only [ho, hx, hy, Sem.run_bind, h2, h1, Result.andThen_ok]
  exact h
def clearB (b : List UInt8) : Bool := decide (b = List.replicate 64 0)
theorem sclear_spec {w : World} {R : Snap} {L : Asrt} {v : Value} {b : List UInt8} (H : Holds w R L) (hr : RdB w.cell? v b) :
    Calls Try.prog 170 #[v] w fun e w' => e = .returned (.bool (clearB b)) ∧ Holds w' R L := by
  obtain ⟨a, c, rfl⟩ := hr.form
  by_cases h64 : b.length = 64
  · have t1 : ((b.length : Int) == 64) = true := by simp [h64]
    go_enter Try.func170, Try.ntmps170
    go_wp2_with (first | (with_reducible refine stop_copy ?_) | (with_reducible refine stop_load ?_))
    generalize hw1 : World.alloc w _ = w1
    have H1 : Holds w1 R (star (blk w.heap.size (u8s (List.replicate 64 0)).toArray tSec) L) := by rw [← hw1]; exact H.alloc (u8s (List.replicate 64 0)).toArray tSec
    have hr1 : RdB w1.cell? (.slice a b.length c) b := by rw [← hw1]; exact hr.below ((Below.refl w.heap.size w).alloc (Nat.le_refl _) _)
    obtain ⟨b1, o1, rfl, hc⟩ := RdB.open hr1 (by omega)
    generalize w.heap.size = g at H1 ⊢
    clear hw1 hr1 hr H
    refine Hold.go (wpList_wanted (by rfl) fun K hK => wp_copy_own _ _ _ _ rfl tU8 undBytes sizeU8 g 0 64 64 ⟨b1, o1, none⟩ _ _ rfl rfl _ tSec H1.blkAt (u8s b) (by rw [u8s_length, h64]; rfl) ?_ (by rw [u8s_length, h64]; decide) (u8s_one _) ?_)
    · intro j x hx
      rw [add_plain]
      have hj : j < b.length := by
        have := (List.getElem?_eq_some_iff.1 hx).1
        rwa [u8s_length] at this
      rw [u8s_get _ _ hj, Option.some.injEq] at hx
      subst hx
      exact hc j hj
    · refine hK _ _ ?_
      have H2 := H1.blkAll (cs2 := ((u8s (List.replicate 64 0)).toArray.toList.take 0 ++ (u8s b ++ (u8s (List.replicate 64 0)).toArray.toList.drop (0 + (u8s b).length))).toArray)
      rw [show ((u8s (List.replicate 64 0)).toArray.toList.take 0 ++ (u8s b ++ (u8s (List.replicate 64 0)).toArray.toList.drop (0 + (u8s b).length))) = u8s b from by rw [List.take_zero, List.nil_append, List.drop_of_length_le (by simp [h64]), List.append_nil]] at H2 ⊢
      generalize World.setRow .. = w2 at H2 ⊢
      have e3 : (goInt (u8s b).length) = .int .i64 64 := by rw [u8s_length, h64]; rfl
      rw [e3]
      go_wp2_with (with_reducible refine stop_load ?_)
      refine Hold.go (wpList_wanted (by rfl) fun K hK => wp_load_row tSec _ rfl g rfl tSec _ (0, 0) _ H2.blkAt Try.underlying214 rfl (by rw [List.size_toArray, u8s_length, h64]; kernel_rfl) (hK _ _ ?_))
      clear hc H1
      go_wp2_with (with_reducible refine stop_eqlArr ?_)
      refine Hold.go (wpList_wanted (by rfl) fun K hK => wp_eqlArr _ _ _ rfl b (List.replicate 64 0) h64 (by simp) rfl rfl (hK _ _ ?_))
      go_wp2_with fail
      go_ret
      exact ⟨ret_bool (by rw [clearB, Bool.eq_iff_iff]; simp), H2.drop⟩
  · have t1 : ((b.length : Int) == 64) = false := by simp; omega
    have e1 : clearB b = false := by
      rw [clearB, decide_eq_false_iff_not]
      intro h; rw [h] at h64; simp at h64
    rw [e1]
    clear e1
    go_enter Try.func170, Try.ntmps170
    go_wp2_with fail
    go_ret
    exact ⟨rfl, H.garbage _⟩

def padTo60 (p : List UInt8) : List UInt8 := p.take 60 ++ (List.replicate 60 0).drop p.length
def sealS (p : List UInt8) : List UInt8 := if p.length ≤ 60 then sealB (padTo60 p) else []
theorem padTo60_len {p : List UInt8} (h : p.length ≤ 60) : (padTo60 p).length = 60 := by simp [padTo60]; omega
theorem sealS_len {p : List UInt8} (h : p.length ≤ 60) : (sealS p).length = 64 := by simp [sealS, h, sealB, padTo60_len h, fourB_length]
theorem sealS_len_le (p : List UInt8) : (sealS p).length ≤ 64 := by
  by_cases h : p.length ≤ 60
  · rw [sealS_len h]; decide
  · simp [sealS, h]
theorem sseal_spec {w : World} {R : Snap} {L : Asrt} {pt : Nat} {v : Value} {p : List UInt8} (H : Holds w R L) (hT : R.blk pt = some (.cells (rowC 256) tabT (0, 0))) (hr : RdB R.cell? v p) :
    Calls Try.prog 142 #[.pointer (some ⟨pt, 0, none⟩), v] w fun e w' => ∃ o, e = .returned o ∧ Holds w' R (star (rowB o (sealS p)) L) := by
  have hr0 := hr
  obtain ⟨a, c, rfl⟩ := hr.form
  by_cases h60 : p.length ≤ 60
  · have e1 : sealS p = sealB (padTo60 p) := by simp [sealS, h60]
    rw [e1]
    have hpl := padTo60_len h60
    have t1 : decide ((60 : Int) < p.length) = false := by simp; omega
    clear e1
    go_enter Try.func142, Try.ntmps142
    go_wp2_with (with_reducible refine stop_make ?_)
    refine Hold.go (wpList_makeB (n := 60) rfl _ _ rfl rfl rfl H (by decide) ?_)
    intro v1 w1 H1
    go_wp2_with (with_reducible refine stop_copy ?_)
    refine Hold.go (wpList_copyB rfl _ _ rfl rfl rfl H1 (hr0.world H1) ?_)
    intro w2 H2
    obtain ⟨R3, le3, H3, hr3⟩ := H2.freezeRow
    rw [List.length_replicate] at hr3
    clear H1 H2
    go_wp2_with fail
    refine (seal_crc (b := padTo60 p) H3 (le3.blk _ _ hT) hr3 (by omega)).mono ?_
    rintro e w4 ⟨o4, rfl, H4⟩
    go_wp2_with fail
    go_ret
    exact ⟨_, rfl, H4.weaken le3⟩
  · have e1 : sealS p = [] := by simp [sealS, h60]
    rw [e1]
    have t1 : decide ((60 : Int) < p.length) = true := by simp; omega
    clear e1
    go_enter Try.func142, Try.ntmps142
    go_wp2_with fail
    go_ret
    exact ⟨_, rfl, H.nilRow _ 1⟩
def openOk (b : List UInt8) : Bool := decide (b.length = 64) && goodB b
def openP (b : List UInt8) : List UInt8 := if openOk b = true then b.take 60 else []
theorem openP_len (b : List UInt8) : (openP b).length ≤ 60 := by unfold openP; split <;> simp; omega
theorem sopen_spec {w : World} {R : Snap} {L : Asrt} {pt : Nat} {v : Value} {b : List UInt8} (H : Holds w R L) (hT : R.blk pt = some (.cells (rowC 256) tabT (0, 0))) (hr : RdB R.cell? v b) :
    Calls Try.prog 147 #[.pointer (some ⟨pt, 0, none⟩), v] w fun e w' => ∃ o, e = .returned (.tuple #[o, .bool (openOk b)]) ∧ Holds w' R (star (rowB o (openP b)) L) := by
  have hr0 := hr
  obtain ⟨a, c, rfl⟩ := hr.form
  by_cases h64 : b.length = 64
  · have t1 : ((b.length : Int) != 64) = false := by simp [h64]
    have e0 : openOk b = goodB b := by simp [openOk, h64]
    have e1 : openP b = if goodB b = true then b.take 60 else [] := by rw [openP, e0]
    rw [e0, e1]
    have hb : b.length ≤ 1000000 := by omega
    have hB := hr0.bounds
    have i1 : (60 : Int) ≤ c := by omega
    have hpre := RdB.pre hr0 60 (by omega)
    have hp6 : (b.take 60).length ≤ 60 := by simp; omega
    clear e0 e1 h64 hB
    have hgood := good_crc H hT hr0 hb
    cases hg : goodB b with
    | true =>
      rw [hg] at hgood
      rw [if_pos rfl]
      clear hg
      go_enter Try.func147, Try.ntmps147
      go_wp2_with (with_reducible refine stop_append ?_)
      refine hgood.mono ?_
      rintro e w1 ⟨rfl, H1⟩
      go_wp2_with (with_reducible refine stop_append ?_)
      refine Hold.go (wpList_appendB rfl _ _ rfl rfl rfl (freshB H1) (hpre.world (H1.garbage _)) (by simp only [List.length_nil]; omega) ?_)
      intro v2 w2 H2
      go_wp2_with fail
      go_ret2
      exact ⟨_, rfl, H2⟩
    | false =>
      rw [hg] at hgood
      rw [if_neg (by decide)]
      clear hg
      go_enter Try.func147, Try.ntmps147
      go_wp2_with fail
      refine hgood.mono ?_
      rintro e w1 ⟨rfl, H1⟩
      go_wp2_with fail
      go_ret2
      exact ⟨_, rfl, H1.nilRow _ 1⟩
  · have t1 : ((b.length : Int) != 64) = true := by rw [bne_iff_ne]; omega
    have e0 : openOk b = false := by simp [openOk, h64]
    have e1 : openP b = [] := by simp [openP, e0]
    rw [e0, e1]
    clear e0 e1
    go_enter Try.func147, Try.ntmps147
    go_wp2_with fail
    go_ret2
    exact ⟨_, rfl, H.nilRow _ 1⟩
end Sh
/- disk.Disk's contracts: what a disk owns, and the small functions. -/
set_option linter.unusedVariables false
set_option linter.unusedSimpArgs false
namespace Sh
open Go Go.RowKit Go.Proofs
attribute [local go_sem ↓] Go.wp_at_zero Go.wp_at_succ
set_option maxHeartbeats 1000000
set_option maxRecDepth 100000

/-- A disk: its block, the row of its sectors' values, and each sector's bytes. -/
def diskA (p : Nat) (q : List (Value × List UInt8)) (left : Int) (dead : Bool) : Asrt := ex fun vs => star (blk p #[vs, .int .i64 left, .bool dead] 195) (star (row tBytes 1 vs q.length (q.map (·.1))) (bytesAll q))
/-- A disk whose sectors are S. -/
def diskS (p : Nat) (S : List (List UInt8)) (left : Int) (dead : Bool) : Asrt := ex fun q : {q : List (Value × List UInt8) // q.map (·.2) = S} => diskA p q.1 left dead
section
variable {w : World} {R : Snap} {L : Asrt} {p : Nat} {S : List (List UInt8)} {left : Int} {dead : Bool}
theorem disk_open (H : Holds w R (star (diskS p S left dead) L)) :
    ∃ (q : List (Value × List UInt8)) (a : Option Addr) (c : Nat), q.map (·.2) = S ∧ Holds w R (star (blk p #[.slice a q.length c, .int .i64 left, .bool dead] 195) (star (row tBytes 1 (.slice a q.length c) q.length (q.map (·.1))) (star (bytesAll q) L))) := by
  obtain ⟨⟨q, hq⟩, H0⟩ := H.unex
  obtain ⟨vs, H1⟩ := H0.unex
  have H3 := H1
  simp only [star_assoc] at H3
  obtain ⟨a, c, rfl⟩ := H3.swap.rowRd.form
  exact ⟨q, a, c, hq, H3⟩
theorem disk_shut {q : List (Value × List UInt8)} {v : Value} (hq : q.map (·.2) = S) (H : Holds w R (star (blk p #[v, .int .i64 left, .bool dead] 195) (star (row tBytes 1 v q.length (q.map (·.1))) (star (bytesAll q) L)))) :
    Holds w R (star (diskS p S left dead) L) := by
  refine Holds.toex (A := fun q : {q : List (Value × List UInt8) // q.map (·.2) = S} => diskA p q.1 left dead) ⟨q, hq⟩ (Holds.toex (A := fun vs => star (blk p #[vs, .int .i64 left, .bool dead] 195) (star (row tBytes 1 vs q.length (q.map (·.1))) (bytesAll q))) v ?_)
  simp only [star_assoc]
  exact H
theorem zero_spec (H : Holds w R L) : Calls Try.prog 176 #[] w fun e w' => ∃ v, e = .returned v ∧ Holds w' R (star (rowB v (List.replicate 64 0)) L) := by
  go_enter Try.func176, Try.ntmps176
  go_wp2_with (with_reducible refine stop_make ?_)
  refine Hold.go (wpList_makeB (n := 64) rfl _ _ rfl rfl rfl H (by decide) ?_)
  intro v2 w2 H2
  go_wp2_with fail
  go_ret
  exact ⟨_, rfl, H2⟩
theorem size_spec (H : Holds w R (star (diskS p S left dead) L)) :
    Calls Try.prog 94 #[.pointer (some ⟨p, 0, none⟩)] w fun e w' => e = .returned (.int .i64 S.length) ∧ w = w' := by
  obtain ⟨q, a, c, rfl, H1⟩ := disk_open H
  obtain ⟨l1, n1, c1, z1⟩ := Holds.facts (H1)
  go_enter Try.func94, Try.ntmps94
  go_wp2_with fail
  go_ret
  exact ⟨by simp, rfl⟩
theorem there_spec {i : Int} (H : Holds w R (star (diskS p S left dead) L)) :
    Calls Try.prog 174 #[.pointer (some ⟨p, 0, none⟩), .int .i64 i] w fun e w' => e = .returned (.bool (decide (0 ≤ i ∧ i < S.length))) ∧ w = w' := by
  by_cases h0 : 0 ≤ i
  · have t0 : (decide ((0 : Int) ≤ i)) = true := by simpa using h0
    go_enter Try.func174, Try.ntmps174
    go_wp2_with fail
    refine (size_spec H).mono ?_
    rintro e w1 ⟨rfl, rfl⟩
    go_wp2_with fail
    go_ret
    exact ⟨ret_bool (by simp [h0]), rfl⟩
  · have t0 : (decide ((0 : Int) ≤ i)) = false := by simpa using h0
    go_enter Try.func174, Try.ntmps174
    go_wp2_with fail
    go_ret
    exact ⟨ret_bool (by simp [h0]), rfl⟩
def spendOk (left : Int) (dead : Bool) : Bool := !(dead || decide (left = 0))
def spendLeft (left : Int) (dead : Bool) : Int := if spendOk left dead = true ∧ 0 < left then left - 1 else left
theorem spend_spec (H : Holds w R (star (diskS p S left dead) L)) (hl : -1 ≤ left ∧ left ≤ 9223372036854775807) :
    Calls Try.prog 175 #[.pointer (some ⟨p, 0, none⟩)] w fun e w' => e = .returned (.bool (spendOk left dead)) ∧ Holds w' R (star (diskS p S (spendLeft left dead) (!spendOk left dead)) L) := by
  obtain ⟨q, a, c, hq, H1⟩ := disk_open H
  clear H
  have HQ := Hid.mk' hq
  obtain ⟨l1, n1, c1, z1⟩ := Holds.facts (H1)
  by_cases h0 : left = 0
  · subst h0
    have e1 : spendOk 0 dead = false := by simp [spendOk]
    have e2 : spendLeft 0 dead = 0 := by simp [spendLeft]
    rw [e1, e2]
    clear e1 e2
    go_enter Try.func175, Try.ntmps175
    go_wp2_with fail
    go_ret
    exact ⟨rfl, disk_shut HQ.out (H1.set 2 (.bool true))⟩
  · have t0 : (left == 0) = false := by simpa using h0
    cases dead with
    | true =>
      have e1 : spendOk left true = false := by simp [spendOk]
      have e2 : spendLeft left true = left := by simp [spendLeft, e1]
      rw [e1, e2]
      clear e1 e2
      go_enter Try.func175, Try.ntmps175
      go_wp2_with fail
      go_ret
      exact ⟨rfl, disk_shut HQ.out H1⟩
    | false =>
      have e1 : spendOk left false = true := by simp [spendOk, h0]
      by_cases h1 : 0 < left
      · have e2 : spendLeft left false = left - 1 := by simp [spendLeft, e1, h1]
        have t1 : (decide (0 < left)) = true := by simpa using h1
        rw [e1, e2]
        clear e1 e2
        go_enter Try.func175, Try.ntmps175
        go_wp2_with fail
        go_ret
        exact ⟨rfl, disk_shut HQ.out (H1.set 1 (.int .i64 (left - 1)))⟩
      · have e2 : spendLeft left false = left := by simp [spendLeft, h1]
        have t1 : (decide (0 < left)) = false := by simpa using h1
        rw [e1, e2]
        clear e1 e2
        go_enter Try.func175, Try.ntmps175
        go_wp2_with fail
        go_ret
        exact ⟨rfl, disk_shut HQ.out H1⟩
end
end Sh
/- disk.New. -/
set_option linter.unusedVariables false
set_option linter.unusedSimpArgs false
namespace Sh
open Go Go.RowKit Go.Proofs
attribute [local go_sem ↓] Go.wp_at_zero Go.wp_at_succ
set_option maxHeartbeats 1000000
set_option maxRecDepth 100000

abbrev tSecs : TypeId := 88
theorem undSecs : Try.prog.underlying tSecs = some (.slice tBytes) := Try.underlying88
theorem infoBytes : (Try.prog.info? tBytes).map (fun i => (i.zero, i.size, i.bytes)) = some (some (.slice none 0 0), 1, 24) := by kernel_rfl
def secN (n : Int) : Nat := (min (max n 1) 512).toNat
abbrev zeros (n : Nat) : List (List UInt8) := List.replicate n (List.replicate 64 0)
theorem disknew_spec {w : World} {R : Snap} {L : Asrt} {n : Int} (H : Holds w R L) :
    Calls Try.prog 162 #[.int .i64 n] w fun e w' => ∃ p, e = .returned (.pointer (some ⟨p, 0, none⟩)) ∧ Holds w' R (star (diskS p (zeros (secN n)) (-1) false) L) := by
  obtain ⟨m, hm⟩ : ∃ m, m = secN n := ⟨_, rfl⟩
  have e1 : min (max n 1) 512 = (m : Int) := by rw [hm, secN]; omega
  have hm5 : m ≤ 512 := by omega
  rw [← hm]
  have HM := Hid.mk' hm
  clear hm
  go_enter Try.func162, Try.ntmps162
  go_wp2_with fail
  have H1 : Holds _ R (star (diskS w.heap.size [] (-1) false) L) := disk_shut (q := []) rfl (by
    show Holds _ R (star _ (star _ (star emp L)))
    rw [emp_star]
    exact ((H.alloc #[.slice none 0 0, .int .i64 (-1), .bool false] 195).nilRow tBytes 1).swap)
  generalize (World.alloc ..) = w1 at H1 ⊢
  generalize w.heap.size = p at H1 ⊢
  go_loopw [9] (fun i wx => ∃ j : Nat, i = .int .i64 j ∧ j ≤ m ∧ Holds wx R (star (diskS p (zeros j) (-1) false) L)) (fun i _ => m - (intOf i).toNat)
  case atStart => exact ⟨0, rfl, Nat.zero_le _, H1⟩
  case round =>
    clear H H1
    obtain ⟨j, rfl, hj, H2⟩ := hrel
    by_cases hlt : j < m
    · go_upto_region 4 with fail
      obtain ⟨q, a, c, hq, H3⟩ := disk_open H2
      clear H2
      have hql : q.length = j := by have := congrArg List.length hq; simpa using this
      have HQ := Hid.mk' hq
      have HQL := Hid.mk' hql
      have hq9 : q.length ≤ 512 := by omega
      clear hq hql
      obtain ⟨l3, n3, c3, z3⟩ := Holds.facts (H3)
      go_region_law ((first | (go_simp; go_at_call 176; refine (zero_spec H3.drew).mono ?_; rintro e w5 ⟨v5, rfl, H5⟩; obtain ⟨a5, c5, rfl⟩ := H5.rowRd.form; rw [List.length_replicate] at H5 ⊢; obtain ⟨l5, n5, cp5, fp5⟩ := H5.swap.facts; have H6 := H5.pick3.alloc #[.slice a5 64 c5] tBytes; have hr6 := (H6.toRow 1 1 1 (Nat.le_refl _) (by simp [maxLen]) rfl).rowRd) | (refine step_append rfl _ _ (by rfl) undSecs infoBytes rfl (by decide) (by rfl) (by rfl) H6.drop hr6 (by simp [Value.oneCell']) (by simp [maxLen]; omega) (by omega) ?_; intro v6 w6 H7; obtain ⟨a6, c6, rfl⟩ := H7.rowRd.form; have cp6 := H7.pick3.blkCell; have fp6 := H7.pick3.blkFrozen)))
      all_goals
        go_wp2_with fail
        go_roundw
        case rel =>
          refine ⟨j + 1, by go_num, hlt, ?_⟩
          have H8 := H7.pick3.set 0 (.slice a6 (q.length + 1) c6)
          refine disk_shut (v := .slice a6 (q.length + 1) c6) (q := q ++ [(.slice a5 64 c5, List.replicate 64 0)]) (by rw [List.map_append, HQ.out]; simp [zeros, List.replicate_succ']) ?_
          rw [bytesAll_append, bytesAll_one, List.length_append, List.length_singleton, List.map_append]
          exact H8.ac (by ac_rfl)
        case measure => simp [intOf]; omega
    · go_wp2_with fail
      go_ret
      rw [show j = m by omega] at H2
      exact ⟨_, rfl, H2⟩
end Sh
