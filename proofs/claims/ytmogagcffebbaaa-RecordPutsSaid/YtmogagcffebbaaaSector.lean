/- sector's contracts: Seal, Open, Clear. -/
import Derived.Test.YtmogagcffebbaaaMem
import Derived.Test.YtmogagcffebbaaaCrc
import Derived.Stop.BytesEq
import Derived.Laws.Rows
set_option linter.unusedVariables false
set_option linter.unusedSimpArgs false
namespace Sh
open Go Go.RowKit Go.Proofs
attribute [local go_sem ↓] Go.wp_at_zero Go.wp_at_succ
set_option maxHeartbeats 1000000
set_option maxRecDepth 100000

theorem stop_load {P : Program} {ops : Array Oper} {Q : Exit → Act → World → Prop} {d : Option Tmp} {x : Operand} {t ty : TypeId} {pos : String} {af : Array Edge} {g : Option (Nat × Bool)} {rest : List Oper} {a : Act} {w : World}
    (h : Hold (wpList P ops Q (⟨d, .load t x, ty, pos, af, g⟩ :: rest) a w)) : wpList P ops Q (⟨d, .load t x, ty, pos, af, g⟩ :: rest) a w := h
theorem wpList_wanted {P : Program} {ops : Array Oper} {Q : Exit → Act → World → Prop} {o : Oper} {rest : List Oper} {a : Act} {w : World} (hw : Region.wanted o (yielded ops a.tmps) = true)
    (h : ∀ K : Act → World → Prop, (∀ a w, wpList P ops Q rest a w → K a w) → o.wp P a w K Q) : wpList P ops Q (o :: rest) a w :=
  wpList_step fun K hK => by rw [if_pos hw]; exact h K hK
theorem wp_copy_own {P : Program} {w : World} {o : Oper} {a : Act} {K : Act → World → Prop} {Q : Exit → Act → World → Prop} (d s : Operand) (dT sT : TypeId)
    (ho : o.op = .call { callee := .builtin .copy, args := #[d, s], argTypes := #[dT, sT] }) (elem : TypeId) (hu : P.underlying dT = some (.slice elem)) (hsz : (P.info? elem).map (·.size) = some 1)
    (g off dLen dCap : Nat) (ad : Addr) (sLen sCap : Nat) (hd : a.eval d = .slice (some ⟨g, off, none⟩) dLen dCap) (hs : a.eval s = .slice (some ad) sLen sCap)
    (cur : Array Value) (t : TypeId) (hg : w.heap[g]? = some (.cells cur t (0, 0))) (cs : List Value) (hn : cs.length = Nat.min sLen dLen)
    (hsrc : ∀ j v, cs[j]? = some v → w.cell? (ad.add j) = some v) (hfit : off + cs.length ≤ cur.size) (h1 : ∀ v ∈ cs, v.oneCell' = true)
    (h : K (a.put o.dst (goInt cs.length)) (w.setRow g (cur.toList.take off ++ (cs ++ cur.toList.drop (off + cs.length))).toArray)) : o.wp P a w K Q := by
  have hrun := run_copy_row (P := P) w dT sT o.type elem g off dLen dCap ad sLen sCap cur t cs hu hsz hg hn hsrc hfit h1
  unfold Oper.wp
  simp [execOp, ho, resolve, invoke, builtin, hd, hs, hrun, Result.andThen]
  exact h
theorem Holds.blkAll {w : World} {R : Snap} {L : Asrt} {b : Nat} {cs cs2 : Array Value} {t : TypeId} (H : Holds w R (star (Sh.blk b cs t) L)) : Holds (w.setRow b cs2) R (star (Sh.blk b cs2 t) L) := by
  obtain ⟨F, ⟨hF, hF'⟩, k⟩ := H.upd
  exact k _ _ F ⟨setRow_heap w b cs cs2 t _ hF, hF'⟩ rfl rfl rfl (fun i hi hn => setRow_other w b i cs2 (fun h => hn ((hF' i).2 h))) (fun i hi => .inl hi)

theorem stop_eqlArr {P : Program} {ops : Array Oper} {Q : Exit → Act → World → Prop} {d : Option Tmp} {x y : Operand} {t2 ty : TypeId} {pos : String} {af : Array Edge} {g : Option (Nat × Bool)} {rest : List Oper} {a : Act} {w : World}
    (h : Hold (wpList P ops Q (⟨d, .binOp .eql 214 x y t2, ty, pos, af, g⟩ :: rest) a w)) : wpList P ops Q (⟨d, .binOp .eql 214 x y t2, ty, pos, af, g⟩ :: rest) a w := h
abbrev tSec : TypeId := 214
theorem wp_eqlArr {w : World} {o : Oper} {a : Act} {K : Act → World → Prop} {Q : Exit → Act → World → Prop} (x y : Operand) (t2 : TypeId) (ho : o.op = .binOp .eql tSec x y t2) (l k : List UInt8) (hl : l.length = 64) (hk : k.length = 64)
    (hx : a.eval x = .agg (u8s l).toArray) (hy : a.eval y = .agg (u8s k).toArray) (h : K (a.put o.dst (.bool (l == k))) w) : o.wp Try.prog a w K Q := by
  have h1 := run_eql_bytes (P := Try.prog) w tSec tU8 64 Try.underlying214 Try.underlying5 (fun w => by kernel_rfl) l k hl hk
  have h2 := run_eqGuard_agg (P := Try.prog) w .eql tSec x y (u8s l).toArray (u8s k).toArray Try.eqGuardType214
  have e : ∀ l : List UInt8, l.map Extern.Stop.cell = u8s l := fun l => rfl
  rw [e, e] at h1
  unfold Oper.wp execOp
  simp only [ho, hx, hy, Sem.run_bind, h2, h1, Result.andThen_ok]
  exact h
def clearB (b : List UInt8) : Bool := decide (b = List.replicate 64 0)
theorem sclear_spec {w : World} {R : Snap} {L : Asrt} {v : Value} {b : List UInt8} (H : Holds w R L) (hr : RdB w.cell? v b) :
    Calls Try.prog 170 #[v] w fun e w' => e = .returned (.bool (clearB b)) ∧ Holds w' R L := by
  obtain ⟨a, c, rfl⟩ := hr.form
  by_cases h64 : b.length = 64
  · have t1 : ((b.length : Int) == 64) = true := by simp [h64]
    go_enter Try.func170, Try.ntmps170
    go_wp2_with (first | (with_reducible refine stop_copy ?_) | (with_reducible refine stop_load ?_))
    generalize hw1 : World.alloc w _ = w1
    have H1 : Holds w1 R (star (blk w.heap.size (u8s (List.replicate 64 0)).toArray tSec) L) := by rw [← hw1]; exact H.alloc (u8s (List.replicate 64 0)).toArray tSec
    have hr1 : RdB w1.cell? (.slice a b.length c) b := by rw [← hw1]; exact hr.below ((Below.refl w.heap.size w).alloc (Nat.le_refl _) _)
    obtain ⟨b1, o1, rfl, hc⟩ := RdB.open hr1 (by omega)
    generalize w.heap.size = g at H1 ⊢
    clear hw1 hr1 hr H
    refine Hold.go (wpList_wanted (by rfl) fun K hK => wp_copy_own _ _ _ _ rfl tU8 undBytes sizeU8 g 0 64 64 ⟨b1, o1, none⟩ _ _ rfl rfl _ tSec H1.blkAt (u8s b) (by rw [u8s_length, h64]; rfl) ?_ (by rw [u8s_length, h64]; decide) (u8s_one _) ?_)
    · intro j x hx
      rw [add_plain]
      have hj : j < b.length := by
        have := (List.getElem?_eq_some_iff.1 hx).1
        rwa [u8s_length] at this
      rw [u8s_get _ _ hj, Option.some.injEq] at hx
      subst hx
      exact hc j hj
    · refine hK _ _ ?_
      have H2 := H1.blkAll (cs2 := ((u8s (List.replicate 64 0)).toArray.toList.take 0 ++ (u8s b ++ (u8s (List.replicate 64 0)).toArray.toList.drop (0 + (u8s b).length))).toArray)
      rw [show ((u8s (List.replicate 64 0)).toArray.toList.take 0 ++ (u8s b ++ (u8s (List.replicate 64 0)).toArray.toList.drop (0 + (u8s b).length))) = u8s b from by rw [List.take_zero, List.nil_append, List.drop_of_length_le (by simp [h64]), List.append_nil]] at H2 ⊢
      generalize World.setRow .. = w2 at H2 ⊢
      have e3 : (goInt (u8s b).length) = .int .i64 64 := by rw [u8s_length, h64]; rfl
      rw [e3]
      go_wp2_with (with_reducible refine stop_load ?_)
      refine Hold.go (wpList_wanted (by rfl) fun K hK => wp_load_row tSec _ rfl g rfl tSec _ (0, 0) _ H2.blkAt Try.underlying214 rfl (by rw [List.size_toArray, u8s_length, h64]; kernel_rfl) (hK _ _ ?_))
      clear hc H1
      go_wp2_with (with_reducible refine stop_eqlArr ?_)
      refine Hold.go (wpList_wanted (by rfl) fun K hK => wp_eqlArr _ _ _ rfl b (List.replicate 64 0) h64 (by simp) rfl rfl (hK _ _ ?_))
      go_wp2_with fail
      go_ret
      exact ⟨ret_bool (by rw [clearB, Bool.eq_iff_iff]; simp), H2.drop⟩
  · have t1 : ((b.length : Int) == 64) = false := by simp; omega
    have e1 : clearB b = false := by
      rw [clearB, decide_eq_false_iff_not]
      intro h; rw [h] at h64; simp at h64
    rw [e1]
    clear e1
    go_enter Try.func170, Try.ntmps170
    go_wp2_with fail
    go_ret
    exact ⟨rfl, H.garbage _⟩

def padTo60 (p : List UInt8) : List UInt8 := p.take 60 ++ (List.replicate 60 0).drop p.length
def sealS (p : List UInt8) : List UInt8 := if p.length ≤ 60 then sealB (padTo60 p) else []
theorem padTo60_len {p : List UInt8} (h : p.length ≤ 60) : (padTo60 p).length = 60 := by simp [padTo60]; omega
theorem sealS_len {p : List UInt8} (h : p.length ≤ 60) : (sealS p).length = 64 := by simp [sealS, h, sealB, padTo60_len h, fourB_length]
theorem sealS_len_le (p : List UInt8) : (sealS p).length ≤ 64 := by
  by_cases h : p.length ≤ 60
  · rw [sealS_len h]; decide
  · simp [sealS, h]
theorem sseal_spec {w : World} {R : Snap} {L : Asrt} {pt : Nat} {v : Value} {p : List UInt8} (H : Holds w R L) (hT : R.blk pt = some (.cells (rowC 256) tabT (0, 0))) (hr : RdB R.cell? v p) :
    Calls Try.prog 142 #[.pointer (some ⟨pt, 0, none⟩), v] w fun e w' => ∃ o, e = .returned o ∧ Holds w' R (star (rowB o (sealS p)) L) := by
  have hr0 := hr
  obtain ⟨a, c, rfl⟩ := hr.form
  by_cases h60 : p.length ≤ 60
  · have e1 : sealS p = sealB (padTo60 p) := by simp [sealS, h60]
    rw [e1]
    have hpl := padTo60_len h60
    have t1 : decide ((60 : Int) < p.length) = false := by simp; omega
    clear e1
    go_enter Try.func142, Try.ntmps142
    go_wp2_with (with_reducible refine stop_make ?_)
    refine Hold.go (wpList_makeB (n := 60) rfl _ _ rfl rfl rfl H (by decide) ?_)
    intro v1 w1 H1
    go_wp2_with (with_reducible refine stop_copy ?_)
    refine Hold.go (wpList_copyB rfl _ _ rfl rfl rfl H1 (hr0.world H1) ?_)
    intro w2 H2
    obtain ⟨R3, le3, H3, hr3⟩ := H2.freezeRow
    rw [List.length_replicate] at hr3
    clear H1 H2
    go_wp2_with fail
    refine (seal_crc (b := padTo60 p) H3 (le3.blk _ _ hT) hr3 (by omega)).mono ?_
    rintro e w4 ⟨o4, rfl, H4⟩
    go_wp2_with fail
    go_ret
    exact ⟨_, rfl, H4.weaken le3⟩
  · have e1 : sealS p = [] := by simp [sealS, h60]
    rw [e1]
    have t1 : decide ((60 : Int) < p.length) = true := by simp; omega
    clear e1
    go_enter Try.func142, Try.ntmps142
    go_wp2_with fail
    go_ret
    exact ⟨_, rfl, H.nilRow _ 1⟩
def openOk (b : List UInt8) : Bool := decide (b.length = 64) && goodB b
def openP (b : List UInt8) : List UInt8 := if openOk b = true then b.take 60 else []
theorem openP_len (b : List UInt8) : (openP b).length ≤ 60 := by unfold openP; split <;> simp; omega
theorem sopen_spec {w : World} {R : Snap} {L : Asrt} {pt : Nat} {v : Value} {b : List UInt8} (H : Holds w R L) (hT : R.blk pt = some (.cells (rowC 256) tabT (0, 0))) (hr : RdB R.cell? v b) :
    Calls Try.prog 147 #[.pointer (some ⟨pt, 0, none⟩), v] w fun e w' => ∃ o, e = .returned (.tuple #[o, .bool (openOk b)]) ∧ Holds w' R (star (rowB o (openP b)) L) := by
  have hr0 := hr
  obtain ⟨a, c, rfl⟩ := hr.form
  by_cases h64 : b.length = 64
  · have t1 : ((b.length : Int) != 64) = false := by simp [h64]
    have e0 : openOk b = goodB b := by simp [openOk, h64]
    have e1 : openP b = if goodB b = true then b.take 60 else [] := by rw [openP, e0]
    rw [e0, e1]
    have hb : b.length ≤ 1000000 := by omega
    have hB := hr0.bounds
    have i1 : (60 : Int) ≤ c := by omega
    have hpre := RdB.pre hr0 60 (by omega)
    have hp6 : (b.take 60).length ≤ 60 := by simp; omega
    clear e0 e1 h64 hB
    have hgood := good_crc H hT hr0 hb
    cases hg : goodB b with
    | true =>
      rw [hg] at hgood
      rw [if_pos rfl]
      clear hg
      go_enter Try.func147, Try.ntmps147
      go_wp2_with (with_reducible refine stop_append ?_)
      refine hgood.mono ?_
      rintro e w1 ⟨rfl, H1⟩
      go_wp2_with (with_reducible refine stop_append ?_)
      refine Hold.go (wpList_appendB rfl _ _ rfl rfl rfl (freshB H1) (hpre.world (H1.garbage _)) (by simp only [List.length_nil]; omega) ?_)
      intro v2 w2 H2
      go_wp2_with fail
      go_ret2
      exact ⟨_, rfl, H2⟩
    | false =>
      rw [hg] at hgood
      rw [if_neg (by decide)]
      clear hg
      go_enter Try.func147, Try.ntmps147
      go_wp2_with fail
      refine hgood.mono ?_
      rintro e w1 ⟨rfl, H1⟩
      go_wp2_with fail
      go_ret2
      exact ⟨_, rfl, H1.nilRow _ 1⟩
  · have t1 : ((b.length : Int) != 64) = true := by rw [bne_iff_ne]; omega
    have e0 : openOk b = false := by simp [openOk, h64]
    have e1 : openP b = [] := by simp [openP, e0]
    rw [e0, e1]
    clear e0 e1
    go_enter Try.func147, Try.ntmps147
    go_wp2_with fail
    go_ret2
    exact ⟨_, rfl, H.nilRow _ 1⟩
end Sh
