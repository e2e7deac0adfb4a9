/- record.pieces: what its function value does, for every body. -/
import Derived.Test.YtmogagcffebbaaaRange
import Derived.Test.YtmogagcffebbaaaRec
import Derived.RangeFuncBox
import Derived.TacticsInMore
import Derived.LoopNIn
import Derived.LoopIn
set_option linter.unusedVariables false
set_option linter.unusedSimpArgs false
namespace Sh
open Go Go.RowKit Go.Proofs
attribute [local go_sem ↓] Go.wp_at_zero Go.wp_at_succ
set_option maxHeartbeats 1000000
set_option maxRecDepth 100000
attribute [local go_sem] Oper.semAt_some

/-- The part of so many bytes that comes i-th. -/
def pieceV (b o N c i : Nat) : Value := .slice (some ⟨b, o + i * 48, none⟩) (min ((i + 1) * 48) N - i * 48) (c - i * 48)
theorem recPieces_in (n : Nat) (hn : 1 ≤ n) (l g N c b0 o0 : Nat) (a : Option Addr) (ha : 0 < N → a = some ⟨b0, o0, none⟩) (hN : N ≤ 100000) (hc : N ≤ c) (hc9 : c ≤ maxLen) (J Jx : List (Fin (bodiesN N)) → World → Prop)
    (hY : ∀ pre x W, J pre W → pre.length < bodiesN N → YieldAt Fence.wide (n - 1) Try.prog l #[.int .i64 (x.1 : Nat), pieceV b0 o0 N c x.1] W fun e W' =>
      (e = .returned (.bool true) ∧ J (pre ++ [x]) W' ∧ W'.heap[g]? = W.heap[g]?) ∨ (e = .returned (.bool false) ∧ Jx (pre ++ [x]) W'))
    (W : World) (hg : W.heap[g]? = some (.cells #[.slice a N c] tBytes (0, 0))) (h0 : J [] W) :
    CallsIn Fence.wide n Try.prog 193 #[.func (.yield l) #[] #[], .pointer (some ⟨g, 0, none⟩)] W fun e W' => (∃ v, e = .returned v) ∧
      ((∃ ys, ys = List.finRange (bodiesN N) ∧ J ys W') ∨ (∃ pre, True ∧ Jx pre W')) := by
  have hgc : ∀ W' : World, W'.heap[g]? = some (.cells #[.slice a N c] tBytes (0, 0)) → ∀ o, W'.cell? ⟨g, o, none⟩ = #[Value.slice a N c][o]? := fun W' h o => by unfold World.cell?; rw [h]; rfl
  have HG := Hid.mk' hg
  have k0 := hgc W hg
  clear hg
  refine callsIn_of_wp Try.func193 rfl trivial ?_ rfl
  simp only [Try.ntmps193, List.size_toArray, List.length_cons, List.length_nil, Nat.reduceAdd, Nat.reduceSub, Array.replicate_succ, Array.replicate_zero, List.push_toArray, List.append_toArray, List.nil_append, List.cons_append]
  gi_wp2_with (refine ⟨trivial, ?_⟩; gi_at_call 157; refine (callsIn_wide.2 (bodies_spec N (by omega) _)).mono ?_; rintro e w' ⟨rfl, rfl⟩)
  have hM : 48 * bodiesN N < N + 48 ∧ N ≤ 48 * bodiesN N := by unfold bodiesN; omega
  obtain ⟨hM1, hM2⟩ := hM
  have upk : ∀ k (h : k < bodiesN N), (List.finRange (bodiesN N)).take (k + 1) = (List.finRange (bodiesN N)).take k ++ [⟨k, h⟩] := fun k h => by
    rw [List.take_succ_eq_append_getElem (by rw [List.length_finRange]; exact h)]
    simp
  have UPK := Hid.mk' upk
  have upl : ∀ k, k ≤ bodiesN N → ((List.finRange (bodiesN N)).take k).length = k := fun k h => by
    rw [List.length_take, List.length_finRange]; omega
  have UPL := Hid.mk' upl
  obtain ⟨M, hMM⟩ : ∃ M, M = bodiesN N := ⟨_, rfl⟩
  have HA := Hid.mk' ha
  have HGC := Hid.mk' hgc
  have HY := Hid.mk' hY
  have HMM := Hid.mk' hMM
  rw [← hMM] at hM1 hM2
  clear ha hgc hY upk upl hMM
  simp only [← HMM.out]
  gi_loopw [7] (fun i wr => ∃ k : Nat, k ≤ M ∧ i = .int .i64 k ∧ J ((List.finRange (bodiesN N)).take k) wr ∧ wr.heap[g]? = some (.cells #[.slice a N c] tBytes (0, 0))) (fun i _ => M - (intOf i).toNat)
  case atStart => exact ⟨0, Nat.zero_le _, rfl, h0, HG.out⟩
  case round =>
    clear h0 k0
    obtain ⟨k, hk, rfl, hJs, hgw⟩ := hrel
    by_cases hlt : k < M
    · have d1 : decide ((k : Int) < (M : Int)) = true := by simp; omega
      have hlt' : k < bodiesN N := by rw [← HMM.out]; exact hlt
      obtain ⟨fn, tmps, assign, body, hy, hR⟩ := HY.out _ ⟨k, hlt'⟩ wr hJs (by rw [UPL.out k (by omega)]; exact hlt')
      obtain rfl := HA.out (by omega)
      have kc := HGC.out wr hgw
      have e : pieceV b0 o0 N c k = .slice (some ⟨b0, o0 + k * 48, none⟩) ((min (((k : Int) + 1) * 48) (N : Int)).toNat - k * 48) (c - k * 48) := by
        unfold pieceV
        rw [show (min (((k : Int) + 1) * 48) (N : Int)).toNat = min ((k + 1) * 48) N by omega]
      dsimp only at hy
      rw [e] at hy
      clear e
      gi_wp2
      refine hR.mono ?_
      rintro e W3 (⟨rfl, hJ3, hk3⟩ | ⟨rfl, hJx3⟩)
      · gi_wp2
        go_roundw
        case rel => exact ⟨k + 1, hlt, by go_num, by rw [UPK.out k hlt']; exact hJ3, hk3.trans hgw⟩
        case measure => simp [intOf]; omega
      · gi_wp2
        refine bodyPost_ret (results_none rfl _ _ _) rfl ?_
        exact ⟨⟨_, rfl⟩, .inr ⟨_, trivial, hJx3⟩⟩
    · have d1 : decide ((k : Int) < (M : Int)) = false := by simp; omega
      gi_wp2
      go_end0
      refine ⟨⟨_, rfl⟩, .inl ⟨_, rfl, ?_⟩⟩
      rw [List.take_of_length_le (by rw [List.length_finRange, ← HMM.out]; omega)] at hJs
      exact hJs
theorem recPieces_stops (n : Nat) (hn : 1 ≤ n) (g N c b0 o0 : Nat) (a : Option Addr) (ha : 0 < N → a = some ⟨b0, o0, none⟩) (hN : N ≤ 100000) (hc : N ≤ c) (hc9 : c ≤ maxLen) (w : World) (hg : w.heap[g]? = some (.cells #[.slice a N c] tBytes (0, 0))) :
    SeqStopsK Fence.wide n Try.prog 193 #[.pointer (some ⟨g, 0, none⟩)] (fun x : Fin (bodiesN N) => #[.int .i64 (x.1 : Nat), pieceV b0 o0 N c x.1]) (fun W W' => W'.heap[g]? = W.heap[g]?) (fun ys => ys = List.finRange (bodiesN N)) (fun _ => True) (bodiesN N) w := fun l J Jx W hW _ _ hY h0 =>
  recPieces_in n hn l g N c b0 o0 a ha hN hc hc9 J Jx hY W ((hW.block g (Array.getElem?_eq_some_iff.1 hg).1).trans hg) h0
theorem recPieces_spec (a : Option Addr) (N c : Nat) (w : World) : Calls Try.prog 155 #[.slice a N c] w fun e w' => e = .returned (.func (.func 193) #[] #[.pointer (some ⟨w.heap.size, 0, none⟩)]) ∧ w' = w.alloc (.cells #[.slice a N c] tBytes) := by
  go_enter Try.func155, Try.ntmps155
  go_wp2_with fail
  go_ret
  exact ⟨rfl, rfl⟩
end Sh
