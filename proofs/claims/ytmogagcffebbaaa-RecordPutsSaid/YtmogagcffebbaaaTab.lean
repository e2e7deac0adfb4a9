/- The seat's tables: closed facts on its types, for the walk. -/
import Derived.Test.YtmogagcffebbaaaProg
import Derived.Test.YtmogagcffebbaaaBase
import Derived.WalkLawsBesides
import Derived.WalkSpells
import Derived.KernelRfl
import Derived.Deep.QuietTactic
import Derived.BigQuiet
import Derived.Deep.RegionHeld3
import Derived.Deep.DrawnRows
import Derived.Deep.RegionLaw
import Derived.StillTailTactics
import Derived.Lib.SlBytesConst
import Derived.Deep.DeepCutAuto
import Derived.Deep.CutBlock
import Derived.Deep.LoopGhost
set_option linter.unusedVariables false
set_option linter.unusedSimpArgs false
namespace Sh
open Go Go.RowKit Go.Proofs
abbrev tU8 : TypeId := 5
abbrev tBytes : TypeId := 22
theorem infoU8 : (Try.prog.info? tU8).map (fun i => (i.zero, i.size, i.bytes)) = some (some (.int .u8 0), 1, 1) := by kernel_rfl
theorem undBytes : Try.prog.underlying tBytes = some (.slice tU8) := Try.underlying22
@[go_sem] theorem eqnilBytes (w : World) (a : Option Addr) (n c : Nat) : (binOp .eql 22 (.slice a n c) (.slice none 0 0)).run Try.prog w = .ok (.bool a.isNone) w := Lib.run_eql_slice_nil w tBytes tU8 a n c 0 0 undBytes
abbrev rowB (v : Value) (l : List UInt8) : Asrt := row tU8 1 v l.length (u8s l)

theorem wpList_appendB {w : World} {R : Snap} {L : Asrt} {v u : Value} {l k : List UInt8} {ops : Array Oper} {rest : List Oper} {o : Oper} {a : Act} {Q : Exit → Act → World → Prop} (hgd : o.guard = none) (s x : Operand)
    (ho : o.op = .call { callee := .builtin .append, args := #[s, x], argTypes := #[tBytes, tBytes] })
    (hs : a.eval s = v) (hx : a.eval x = u) (H : Holds w R (star (rowB v l) L)) (hr : RdB w.cell? u k) (hb : l.length + k.length ≤ 100000000)
    (hK : ∀ v' w', Holds w' R (star (rowB v' (l ++ k)) L) → wpList Try.prog ops Q rest (a.put o.dst v') w') : wpList Try.prog ops Q (o :: rest) a w :=
  wpList_append hgd s x ho undBytes infoU8 rfl (by decide) hs hx H hr (u8s_one k) (by simp only [maxLen]; omega) (by omega) fun v' w' H' => hK v' w' (by
    rw [← u8s_append, ← List.length_append] at H'; exact H')
theorem step_appendB {w : World} {R : Snap} {L : Asrt} {v u : Value} {l k : List UInt8} {ops : Array Oper} {o : Oper} {a : Act} {K : Act → World → Prop} {Q : Exit → Act → World → Prop} {E : Prop} (hgd : o.guard = none) (s x : Operand)
    (ho : o.op = .call { callee := .builtin .append, args := #[s, x], argTypes := #[tBytes, tBytes] })
    (hs : a.eval s = v) (hx : a.eval x = u) (H : Holds w R (star (rowB v l) L)) (hr : RdB w.cell? u k) (hb : l.length + k.length ≤ 100000000)
    (hK : ∀ v' w', Holds w' R (star (rowB v' (l ++ k)) L) → K (a.put o.dst v') w') : if Region.wanted o (yielded ops a.tmps) = true then Oper.wp Try.prog o a w K Q else E :=
  step_append hgd s x ho undBytes infoU8 rfl (by decide) hs hx H hr (u8s_one k) (by simp only [maxLen]; omega) (by omega) fun v' w' H' => hK v' w' (by
    rw [← u8s_append, ← List.length_append] at H'; exact H')

/-- 'make([]byte, n)'. -/
theorem wpList_makeB {w : World} {R : Snap} {L : Asrt} {n : Nat} {ops : Array Oper} {rest : List Oper} {o : Oper} {a : Act} {Q : Exit → Act → World → Prop} (hgd : o.guard = none) (l c : Operand)
    (ho : o.op = .makeSlice tBytes l c) (hl : a.eval l = .int .i64 n) (hc : a.eval c = .int .i64 n) (H : Holds w R L) (hn : n ≤ 100000000)
    (hK : ∀ v w', Holds w' R (star (rowB v (List.replicate n 0)) L) → wpList Try.prog ops Q rest (a.put o.dst v) w') : wpList Try.prog ops Q (o :: rest) a w := by
  obtain ⟨i, hi, hz, hs, hb⟩ := info_parts infoU8
  refine wpList_make_full (P := Try.prog) w hgd l c tBytes ho w.heap.size tU8 i _ 1 undBytes hi hz hs .i64 .i64 n n n hl hc rfl rfl (by rw [hb]; omega) (by simp only [maxLen]; omega) (Nat.le_refl _) ?_
  intro w' h1 h2
  refine hK _ w' ?_
  have h3 := H.ofGrown h1 h2 (Nat.le_refl _)
  have e : (madeCells (Value.int IntKind.u8 0).cells (n * 1)).toList = u8s (List.replicate n 0) := by
    simp only [madeCells, u8s, Value.cells, Nat.mul_one]
    rw [Array.toList_map]
    simp [Nat.mod_one]
    rw [List.map_const', List.length_range]
  rw [e] at h3
  have e2 : n = (List.replicate n (0 : UInt8)).length := by simp
  show Holds w' R (star (row tU8 1 _ (List.replicate n (0 : UInt8)).length _) L)
  rw [← e2]; exact h3
/-- 'make([]byte, 0, n)'. -/
theorem wpList_makeB0 {w : World} {R : Snap} {L : Asrt} {n : Nat} {ops : Array Oper} {rest : List Oper} {o : Oper} {a : Act} {Q : Exit → Act → World → Prop} (hgd : o.guard = none) (l c : Operand)
    (ho : o.op = .makeSlice tBytes l c) (hl : a.eval l = .int .i64 0) (hc : a.eval c = .int .i64 n) (H : Holds w R L) (hn : n ≤ 100000000)
    (hK : ∀ v w', Holds w' R (star (rowB v []) L) → wpList Try.prog ops Q rest (a.put o.dst v) w') : wpList Try.prog ops Q (o :: rest) a w := by
  obtain ⟨i, hi, hz, hs, hb⟩ := info_parts infoU8
  refine wpList_make_own (P := Try.prog) w hgd l c tBytes ho w.heap.size tU8 i _ 1 undBytes hi hz hs .i64 .i64 n n hl hc rfl (by rw [hb]; omega) (by simp only [maxLen]; omega) (Nat.le_refl _) ?_
  intro w' h1 h2
  exact hK _ w' (H.ofGrown h1 h2 (Nat.le_refl _))
/-- A row of bytes that one byte is written to. -/
theorem row_write {w : World} {R : Snap} {L : Asrt} {g n cap : Nat} {l : List UInt8} (H : Holds w R (star (row tU8 1 (.slice (some ⟨g, 0, none⟩) n cap) n (u8s l)) L)) (j : Nat) (z : Int) (hj : j < n) (hz : 0 ≤ z ∧ z ≤ 255) :
    Holds (w.setCell ⟨g, j, none⟩ (.int .u8 z)) R (star (row tU8 1 (.slice (some ⟨g, 0, none⟩) n cap) n (u8s (l.set j (UInt8.ofNat z.toNat)))) L) := by
  have h := H.rowSet j (.int .u8 z) (by omega)
  have e : (UInt8.ofNat z.toNat).toNat = z.toNat := by
    have : z.toNat < 256 := by omega
    simp [Nat.mod_eq_of_lt this]
  have e2 : (Value.int .u8 z) = .int .u8 ((UInt8.ofNat z.toNat).toNat : Int) := by rw [e, Int.toNat_of_nonneg hz.1]
  rw [e2, u8s_set] at h
  rw [e2]; exact h
/-- A new slice of bytes, empty. -/
theorem freshB {w : World} {R : Snap} {L : Asrt} (H : Holds w R L) : Holds (w.alloc (.cells #[] tU8)) R (star (rowB (.slice (some ⟨w.heap.size, 0, none⟩) 0 0) []) L) :=
  (H.alloc #[] tU8).toRow 1 0 0 (Nat.le_refl _) (Nat.zero_le _) rfl
/-- A block of bytes as a row. -/
theorem blkB {w : World} {R : Snap} {L : Asrt} {b n : Nat} {cs : Array Value} (H : Holds w R (star (blk b cs tU8) L)) (l : List UInt8) (h : cs.toList = u8s l) (hn : n = l.length) (hl : l.length ≤ 100000000) :
    Holds w R (star (rowB (.slice (some ⟨b, 0, none⟩) n n) l) L) := by
  have hs : cs.size = l.length := by rw [← Array.length_toList, h, u8s_length]
  subst hn
  have h1 := H.toRow 1 l.length l.length (Nat.le_refl _) (by simp only [maxLen]; omega) (by omega)
  rw [h, Nat.mul_one, List.take_of_length_le (by simp)] at h1
  exact h1
theorem blkRdB {w : World} {R : Snap} {L : Asrt} {b n : Nat} {cs : Array Value} (H : Holds w R (star (blk b cs tU8) L)) (l : List UInt8) (h : cs.toList = u8s l) (hn : n = l.length) (hl : l.length ≤ 100000000) :
    RdB w.cell? (.slice (some ⟨b, 0, none⟩) n n) l := (blkB H l h hn hl).rowRd

@[go_sem] theorem convConst (w : World) (C : Array Value) (n c : Nat) : (convert 22 22 (.slice (some ⟨w.heap.size, 0, none⟩) n c)).run Try.prog (w.alloc (.cells C 5)) = .ok (.slice (some ⟨w.heap.size, 0, none⟩) n c) (w.alloc (.cells C 5 (C.size, C.size + 1))) := Lib.run_convert_bytes_const w _ _ C n c undBytes Try.underlying5
/-- 'string(b)'. -/
theorem convStr {w : World} {v : Value} {l : List UInt8} (h : RdB w.cell? v l) : (convert 22 9 v).run Try.prog w = .ok (.string ⟨l.toArray⟩) w := by
  obtain ⟨a, c, rfl⟩ := h.form
  by_cases hn : 0 < l.length
  · obtain ⟨b, o, rfl, hc⟩ := RdB.open h hn
    rw [run_convert_bytes_arg w 22 5 undBytes Try.underlying5 b o l.length c (l.map fun x => (x.toNat : Int)) (by simp) (fun i hi => by rw [hc i hi]; simp [List.getD, hi]) 9 Try.underlying9]
    have e : (List.map (fun n : Int => UInt8.ofNat n.toNat) (l.map fun x => (x.toNat : Int))) = l := by
      rw [List.map_map]
      conv => rhs; rw [← List.map_id l]
      apply List.map_congr_left
      intro x _
      simp
    rw [strOfNums, e]
  · obtain rfl : l = [] := List.eq_nil_of_length_eq_zero (by omega)
    cases a with
    | none => rw [run_convert_bytes_nil w 22 5 undBytes Try.underlying5 _ c 9 Try.underlying9]; rfl
    | some ad =>
      rw [run_convert_bytes_string w 22 9 5 _ _ c undBytes Try.underlying5 Try.underlying9, run_bytesToString w _ _ c [] (by simp [loadCells, loadCellsFrom])]
      rfl
/-- slices.Clone of bytes. -/
theorem clone_spec {w : World} {R : Snap} {L : Asrt} {v : Value} {l : List UInt8} (H : Holds w R L) (hr : RdB w.cell? v l) (hn : l.length ≤ 1000000) :
    Calls Try.prog 108 #[v] w fun e w' => ∃ v', e = .returned v' ∧ Holds w' R (star (rowB v' l) L) := by
  obtain ⟨a, cap, rfl⟩ := hr.form
  cases a with
  | none =>
    obtain ⟨a', cap', e1, r1, r2, r3, r4, r5⟩ := id hr
    simp only [Value.slice.injEq, true_and] at e1
    obtain ⟨rfl, rfl⟩ := e1
    obtain rfl := r4 rfl
    obtain rfl : l = [] := List.eq_nil_of_length_eq_zero (by omega)
    clear r1 r2 r3 r4 r5 hr
    go_enter Try.func108, Try.ntmps108
    go_wp2_with fail
    go_ret
    exact ⟨_, rfl, H.nilRow _ 1⟩
  | some ad =>
    go_enter Try.func108, Try.ntmps108
    go_wp2_with (with_reducible refine stop_append ?_)
    have H1 : Holds _ R (star (rowB _ []) L) := (H.alloc #[] tU8).toRow 1 0 0 (Nat.le_refl _) (Nat.zero_le _) rfl
    have hr1 := hr.below ((Below.refl _ _).alloc (Nat.le_refl _) (.cells #[] tU8))
    refine Hold.go (wpList_appendB rfl _ _ rfl rfl rfl H1 hr1 (by simp; omega) ?_)
    intro v' w' H2
    go_wp2_with fail
    go_ret
    exact ⟨_, rfl, H2⟩

theorem take_snoc_eq {l k : List UInt8} {j : Nat} (hl : j < l.length) (hk : j < k.length) (h : l.take j = k.take j) (e : l[j] = k[j]) : l.take (j + 1) = k.take (j + 1) := by
  rw [List.take_succ_eq_append_getElem hl, List.take_succ_eq_append_getElem hk, h, e]

/-- sherdref01.Same. -/
theorem same_spec {w : World} {u v : Value} {l k : List UInt8} (hu : RdB w.cell? u l) (hv : RdB w.cell? v k) (hl : l.length ≤ 1000000) (hk : k.length ≤ 1000000) :
    Calls Try.prog 27 #[u, v] w fun e w' => e = .returned (.bool (decide (l = k))) ∧ ∃ q, w' = w.drewN q := by
  obtain ⟨a, ca, rfl⟩ := hu.form
  obtain ⟨b, cb, rfl⟩ := hv.form
  by_cases hlen : l.length = k.length
  · have HL : Hid (l.length = k.length) := hlen
    obtain ⟨n, hn⟩ : ∃ n, n = k.length := ⟨_, rfl⟩
    have HN : Hid (n = k.length) := hn
    have hcell : ∀ (q j : Nat) (h : j < n), ∃ x y : UInt8, ∃ b1 o1 b2 o2, a = some ⟨b1, o1, none⟩ ∧ b = some ⟨b2, o2, none⟩ ∧ w.cell? ⟨b1, o1 + j, none⟩ = some (.int .u8 x.toNat) ∧ w.cell? ⟨b2, o2 + j, none⟩ = some (.int .u8 y.toNat) ∧ Hid (l[j]? = some x ∧ k[j]? = some y) := by
      intro q j hj
      obtain ⟨b1, o1, rfl, h1⟩ := hu.open (by omega)
      obtain ⟨b2, o2, rfl, h2⟩ := hv.open (by omega)
      exact ⟨l[j], k[j], b1, o1, b2, o2, rfl, rfl, h1 j (by omega), h2 j (by omega), by simp, by simp⟩
    rw [hlen, ← hn]
    clear hlen hn hu hv
    have hn9 : n ≤ 1000000 := HN.out ▸ hk
    go_enter Try.func27, Try.ntmps27
    go_wp2_with fail
    go_loopw [5] (fun i wr => ∃ j : Nat, i = .int .i64 j ∧ j ≤ n ∧ Hid (l.take j = k.take j) ∧ ∃ q, wr = w.drewN q) (fun i _ => n - (intOf i).toNat)
    case atStart => exact ⟨0, rfl, Nat.zero_le _, rfl, 0, rfl⟩
    case round =>
      obtain ⟨j, rfl, hj, ht, q, rfl⟩ := hrel
      by_cases hlt : j < n
      · obtain ⟨x, y, b1, o1, b2, o2, rfl, rfl, c1, c2, hxy⟩ := hcell q j hlt
        go_wp2_with fail
        go_quiet (fail)
        go_wp2_with fail
        · rename_i hne
          go_ret
          refine ⟨ret_bool ?_, drewN2 _ _ _⟩
          symm; rw [decide_eq_false_iff_not]
          rintro rfl
          have := hxy.out.1.symm.trans hxy.out.2
          simp only [Option.some.injEq] at this
          subst this; simp at hne
        · rename_i he
          go_roundw
          case rel =>
            refine ⟨j + 1, by go_num, hlt, ?_, _, rfl⟩
            have e : x = y := u8_toNat_inj.1 (by simpa using he)
            obtain ⟨h1, h2⟩ := hxy.out
            have g1 := (List.getElem?_eq_some_iff.1 h1)
            have g2 := (List.getElem?_eq_some_iff.1 h2)
            exact take_snoc_eq g1.1 g2.1 ht.out (by rw [g1.2, g2.2, e])
          case measure => simp [intOf]; omega
      · go_wp2_with fail
        go_ret
        refine ⟨ret_bool ?_, _, rfl⟩
        symm; rw [decide_eq_true_eq]
        have h1 := ht.out
        have h2 := HL.out
        have h3 := HN.out
        rwa [List.take_of_length_le (by omega), List.take_of_length_le (by omega)] at h1
  · have h1 : ((l.length : Int) != (k.length : Int)) = true := by simp; omega
    go_enter Try.func27, Try.ntmps27
    go_wp2_with fail
    go_ret
    exact ⟨ret_bool (by symm; rw [decide_eq_false_iff_not]; rintro rfl; exact hlen rfl), 0, rfl⟩
end Sh
