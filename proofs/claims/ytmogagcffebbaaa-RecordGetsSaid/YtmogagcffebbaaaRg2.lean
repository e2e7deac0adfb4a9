/- Row Enter Tab Pack PackRd PackRef: joined texts, each with its own sentence below. -/
import Derived.Test.YtmogagcffebbaaaRg1
import Derived.ProofKit
import Derived.OpenShut
import Derived.ShutString
import Derived.ChangeOld
import Derived.SizedLaws
import Derived.Deep.Slices
import Derived.Test.YtmogagcffebbaaaProg
import Derived.JoinedOf
import Derived.KernelRfl
import Derived.WalkLawsBesides
import Derived.WalkSpells
import Derived.Deep.QuietTactic
import Derived.BigQuiet
import Derived.Deep.RegionHeld3
import Derived.Deep.DrawnRows
import Derived.Deep.RegionLaw
import Derived.StillTailTactics
import Derived.Lib.SlBytesConst
import Derived.Deep.DeepCutAuto
import Derived.Deep.CutBlock
import Derived.Deep.LoopGhost
/- What the arguments of a law read as: from the claim's own reading (DataW.trod) to this seat's words. -/
set_option linter.unusedVariables false
set_option linter.unusedSimpArgs false
namespace Sh
open Go Go.RowKit

section
variable {H : Type} {enc : TypeId × Value → H} {P : Program} {w : World} {base : Nat} {spare : Nat → Bool} {held : Bool} {fuel : Nat} {t e : TypeId} {cs : List Value} {x : DataW H × List MemPlace}

theorem read_int {k : IntKind} (ht : P.underlying t = some (.int k)) (h : DataW.trod enc P w base spare held fuel t cs = some x) : ∃ n, cs = [.int k n] ∧ k.min ≤ n ∧ n ≤ k.max := by
  obtain ⟨n, h1, _, h3⟩ := DataW.trod_int ht h
  refine ⟨n, h1, ?_⟩
  simpa [Lit.wf] using h3
theorem read_string (ht : P.underlying t = some .string) (h : DataW.trod enc P w base spare held fuel t cs = some x) : ∃ s : ByteArray, cs = [.string s] ∧ s.size ≤ maxLen := by
  obtain ⟨s, h1, _, h3⟩ := DataW.trod_string ht h
  exact ⟨s, h1, h3⟩

theorem read_slice {α : Type} [Inhabited α] {sz : Nat} {f : α → List Value} {Good : α → Prop} (hf : ∀ a, (f a).length = sz) (hsz : 0 < sz) (ht : P.underlying t = some (.slice e)) (hc : P.cellsOf e = sz)
    (hK : ∀ (fuel : Nat) (cs : List Value) (x : DataW H × List MemPlace), DataW.trod enc P w base spare held fuel e cs = some x → ∃ a, cs = f a ∧ Good a)
    (h : DataW.trod enc P w base spare held fuel t cs = some x) : ∃ (v : Value) (l : List α), cs = [v] ∧ Rd w.cell? sz v l.length (l.flatMap f) ∧ ∀ a ∈ l, Good a := by
  rcases Deep.open_slice ht h with ⟨rfl, _⟩ | ⟨a, len, cap, m, n, D, Pl, rfl, hb, hl, hm, hmm, _, hx⟩
  · exact ⟨_, [], rfl, Rd.nil, fun _ h => by cases h⟩
  · have hle : len ≤ m := by rw [hmm]; split <;> omega
    obtain ⟨g, hg⟩ := Deep.choose_lt (α := α) (n := len) (p := fun i y => w.cells? base (a.add (i * P.cellsOf e)) (P.cellsOf e) = some (f y) ∧ Good y) (fun i hi => by
      obtain ⟨cs', h1, h2⟩ := hx i (by omega)
      obtain ⟨y, rfl, hy⟩ := hK _ _ _ h2
      exact ⟨y, h1, hy⟩)
    refine ⟨_, (List.range len).map g, rfl, ?_, fun y hy => ?_⟩
    · have e1 : ((List.range len).map g).length = len := by simp
      rw [e1]
      refine ⟨_, _, rfl, hl, hm, by rw [flat_len f sz hf, e1], (fun h => by cases h), ?_⟩
      intro b o s ha j u hu
      simp only [Option.some.injEq] at ha
      subst ha
      have hj : j < len * sz := by
        have := (List.getElem?_eq_some_iff.1 hu).1
        rwa [flat_len f sz hf, e1] at this
      have hq : j / sz < len := Nat.div_lt_of_lt_mul (by rw [Nat.mul_comm]; exact hj)
      have hr : j % sz < sz := Nat.mod_lt _ hsz
      have hjj : j / sz * sz + j % sz = j := Nat.div_add_mod' j sz
      have hu2 : (f (g (j / sz)))[j % sz]? = some u := by
        rw [← hjj, flat_get f sz hf _ _ _ (by rw [e1]; exact hq) hr] at hu
        simpa using hu
      have hcl := World.cells?_some (hg _ hq).1
      have hcell := (hcl.2.2 (j % sz) (by rw [hc]; exact hr)).trans hu2
      rw [hc, Deep.add_add, hjj] at hcell
      have hs : s = none := by
        have h0 := World.cells?_some (hg 0 (Nat.lt_of_le_of_lt (Nat.zero_le _) hq)).1
        have h1 := (h0.2.2 0 (by rw [hc]; exact hsz)).trans (List.getElem?_eq_getElem (by rw [hf]; exact hsz))
        rw [Nat.zero_mul, Deep.add_add] at h1
        simpa [Addr.add] using World.cell?_spot h1
      subst hs
      rw [add_plain] at hcell
      exact ⟨rfl, hcell⟩
    · obtain ⟨i, hi, rfl⟩ := List.mem_map.1 hy
      exact (hg i (List.mem_range.1 hi)).2

/-- A struct's field, as it reads. -/
theorem read_fields {fs : Array Field} (ht : P.underlying t = some (.struct fs)) (h : DataW.trod enc P w base spare held fuel t cs = some x) :
    cs.length = P.cellsOf t ∧ ∃ n, ∀ (i : Nat) (f : Field), fs[i]? = some f → ∃ y, DataW.trod enc P w base spare held n f.type ((cs.drop f.offset).take (P.cellsOf f.type)) = some y := by
  obtain ⟨xs, n, rfl, _, hl, hx, hf⟩ := DataW.trod_struct ht h
  refine ⟨hl, n, fun i f hi => ?_⟩
  have hlt : i < xs.length := by rw [hx]; exact (Array.getElem?_eq_some_iff.1 hi).1
  exact ⟨xs[i], (hf i f hi).trans (List.getElem?_eq_getElem hlt)⟩
theorem wf_bounds {k : IntKind} {n : Int} (h : (Lit.int k n).wf = true) : k.min ≤ n ∧ n ≤ k.max := by simpa [Lit.wf] using h
theorem flat_single {α β : Type} (f : α → β) : ∀ l : List α, (l.flatMap fun a => [f a]) = l.map f
  | [] => rfl
  | a :: l => by rw [List.flatMap_cons, flat_single f l]; rfl

theorem read_bytes (ht : P.underlying t = some (.slice e)) (he : P.underlying e = some (.int .u8)) (hc : P.cellsOf e = 1) (h : DataW.trod enc P w base spare held fuel t cs = some x) : ∃ (v : Value) (l : List UInt8), cs = [v] ∧ RdB w.cell? v l := by
  obtain ⟨v, l, h1, h2, _⟩ := read_slice (α := UInt8) (f := fun c => [.int .u8 (c.toNat : Int)]) (Good := fun _ => True) (sz := 1) (fun _ => rfl) (by decide) ht hc (fun fuel cs x hx => by
    obtain ⟨n, rfl, h1, h2⟩ := read_int he hx
    have h1 : (0 : Int) ≤ n := h1
    have h2 : n ≤ 255 := h2
    refine ⟨UInt8.ofNat n.toNat, ?_, trivial⟩
    have h3 : n.toNat < 256 := by omega
    have e : (UInt8.ofNat n.toNat).toNat = n.toNat := by simp [Nat.mod_eq_of_lt h3]
    rw [e, Int.toNat_of_nonneg h1]) h
  refine ⟨v, l, h1, ?_⟩
  rw [flat_single] at h2
  exact h2
end
end Sh
/- The program's head: a cut that may be entered. (The kernel reads a long head's text slowly: here its signs come by a lemma.) -/
set_option linter.unusedVariables false
set_option linter.unusedSimpArgs false
set_option maxRecDepth 100000
namespace Sh
open Go Go.Proofs
theorem enter_cut {P : Program} (h : (behindMainWord (wordsSigns P.initOrder.toList)).head? = some "cut".toList) (hd : P.doorFits [] = true) (hl : P.laysLater = false) (hr : P.bearsReflect = false) :
    P.mayEnter = true ∧ P.liftsFinal = false ∧ P.make = some .cut := by
  unfold Program.mayEnter Program.liftsFinal Program.make Program.headLifts
  generalize behindMainWord (wordsSigns P.initOrder.toList) = ws at h ⊢
  cases ws with
  | nil => cases h
  | cons c rest =>
    simp only [List.head?_cons, Option.some.injEq] at h
    subst h
    have e : stripLifts liftWords ("cut".toList :: rest) = ([], "cut".toList :: rest) := by
      simp only [liftWords, stripLifts]; rfl
    dsimp only
    simp only [e, hd, hl, hr]
    refine ⟨by rfl, by rfl, by rfl⟩
theorem headSigns : ∃ l : List Char, Try.prog.initOrder.toList = l ∧ (behindMainWord (wordsSigns l)).head? = some "cut".toList := ⟨_, String.toList_ofList, by kernel_rfl⟩
theorem enters : Try.prog.mayEnter = true ∧ Try.prog.liftsFinal = false ∧ Try.prog.make = some .cut := by
  obtain ⟨l, h1, h2⟩ := headSigns
  exact enter_cut (by rw [h1]; exact h2) (by kernel_rfl) (by kernel_rfl) (by kernel_rfl)
end Sh
/- The seat's tables: closed facts on its types, for the walk. -/
set_option linter.unusedVariables false
set_option linter.unusedSimpArgs false
namespace Sh
open Go Go.RowKit Go.Proofs
abbrev tU8 : TypeId := 5
abbrev tBytes : TypeId := 22
theorem infoU8 : (Try.prog.info? tU8).map (fun i => (i.zero, i.size, i.bytes)) = some (some (.int .u8 0), 1, 1) := by kernel_rfl
theorem undBytes : Try.prog.underlying tBytes = some (.slice tU8) := Try.underlying22
@[go_sem] theorem eqnilBytes (w : World) (a : Option Addr) (n c : Nat) : (binOp .eql 22 (.slice a n c) (.slice none 0 0)).run Try.prog w = .ok (.bool a.isNone) w := Lib.run_eql_slice_nil w tBytes tU8 a n c 0 0 undBytes
abbrev rowB (v : Value) (l : List UInt8) : Asrt := row tU8 1 v l.length (u8s l)

theorem wpList_appendB {w : World} {R : Snap} {L : Asrt} {v u : Value} {l k : List UInt8} {ops : Array Oper} {rest : List Oper} {o : Oper} {a : Act} {Q : Exit → Act → World → Prop} (hgd : o.guard = none) (s x : Operand)
    (ho : o.op = .call { callee := .builtin .append, args := #[s, x], argTypes := #[tBytes, tBytes] })
    (hs : a.eval s = v) (hx : a.eval x = u) (H : Holds w R (star (rowB v l) L)) (hr : RdB w.cell? u k) (hb : l.length + k.length ≤ 100000000)
    (hK : ∀ v' w', Holds w' R (star (rowB v' (l ++ k)) L) → wpList Try.prog ops Q rest (a.put o.dst v') w') : wpList Try.prog ops Q (o :: rest) a w :=
  wpList_append hgd s x ho undBytes infoU8 rfl (by decide) hs hx H hr (u8s_one k) (by simp only [maxLen]; omega) (by omega) fun v' w' H' => hK v' w' (by
    rw [← u8s_append, ← List.length_append] at H'; exact H')
theorem step_appendB {w : World} {R : Snap} {L : Asrt} {v u : Value} {l k : List UInt8} {ops : Array Oper} {o : Oper} {a : Act} {K : Act → World → Prop} {Q : Exit → Act → World → Prop} {E : Prop} (hgd : o.guard = none) (s x : Operand)
    (ho : o.op = .call { callee := .builtin .append, args := #[s, x], argTypes := #[tBytes, tBytes] })
    (hs : a.eval s = v) (hx : a.eval x = u) (H : Holds w R (star (rowB v l) L)) (hr : RdB w.cell? u k) (hb : l.length + k.length ≤ 100000000)
    (hK : ∀ v' w', Holds w' R (star (rowB v' (l ++ k)) L) → K (a.put o.dst v') w') : if Region.wanted o (yielded ops a.tmps) = true then Oper.wp Try.prog o a w K Q else E :=
  step_append hgd s x ho undBytes infoU8 rfl (by decide) hs hx H hr (u8s_one k) (by simp only [maxLen]; omega) (by omega) fun v' w' H' => hK v' w' (by
    rw [← u8s_append, ← List.length_append] at H'; exact H')

/-- 'make([]byte, n)'. -/
theorem wpList_makeB {w : World} {R : Snap} {L : Asrt} {n : Nat} {ops : Array Oper} {rest : List Oper} {o : Oper} {a : Act} {Q : Exit → Act → World → Prop} (hgd : o.guard = none) (l c : Operand)
    (ho : o.op = .makeSlice tBytes l c) (hl : a.eval l = .int .i64 n) (hc : a.eval c = .int .i64 n) (H : Holds w R L) (hn : n ≤ 100000000)
    (hK : ∀ v w', Holds w' R (star (rowB v (List.replicate n 0)) L) → wpList Try.prog ops Q rest (a.put o.dst v) w') : wpList Try.prog ops Q (o :: rest) a w := by
  obtain ⟨i, hi, hz, hs, hb⟩ := info_parts infoU8
  refine wpList_make_full (P := Try.prog) w hgd l c tBytes ho w.heap.size tU8 i _ 1 undBytes hi hz hs .i64 .i64 n n n hl hc rfl rfl (by rw [hb]; omega) (by simp only [maxLen]; omega) (Nat.le_refl _) ?_
  intro w' h1 h2
  refine hK _ w' ?_
  have h3 := H.ofGrown h1 h2 (Nat.le_refl _)
  have e : (madeCells (Value.int IntKind.u8 0).cells (n * 1)).toList = u8s (List.replicate n 0) := by
    simp only [madeCells, u8s, Value.cells, Nat.mul_one]
    rw [Array.toList_map]
    simp [Nat.mod_one]
    rw [List.map_const', List.length_range]
  rw [e] at h3
  have e2 : n = (List.replicate n (0 : UInt8)).length := by simp
  show Holds w' R (star (row tU8 1 _ (List.replicate n (0 : UInt8)).length _) L)
  rw [← e2]; exact h3
/-- 'make([]byte, 0, n)'. -/
theorem wpList_makeB0 {w : World} {R : Snap} {L : Asrt} {n : Nat} {ops : Array Oper} {rest : List Oper} {o : Oper} {a : Act} {Q : Exit → Act → World → Prop} (hgd : o.guard = none) (l c : Operand)
    (ho : o.op = .makeSlice tBytes l c) (hl : a.eval l = .int .i64 0) (hc : a.eval c = .int .i64 n) (H : Holds w R L) (hn : n ≤ 100000000)
    (hK : ∀ v w', Holds w' R (star (rowB v []) L) → wpList Try.prog ops Q rest (a.put o.dst v) w') : wpList Try.prog ops Q (o :: rest) a w := by
  obtain ⟨i, hi, hz, hs, hb⟩ := info_parts infoU8
  refine wpList_make_own (P := Try.prog) w hgd l c tBytes ho w.heap.size tU8 i _ 1 undBytes hi hz hs .i64 .i64 n n hl hc rfl (by rw [hb]; omega) (by simp only [maxLen]; omega) (Nat.le_refl _) ?_
  intro w' h1 h2
  exact hK _ w' (H.ofGrown h1 h2 (Nat.le_refl _))
/-- A row of bytes that one byte is written to. -/
theorem row_write {w : World} {R : Snap} {L : Asrt} {g n cap : Nat} {l : List UInt8} (H : Holds w R (star (row tU8 1 (.slice (some ⟨g, 0, none⟩) n cap) n (u8s l)) L)) (j : Nat) (z : Int) (hj : j < n) (hz : 0 ≤ z ∧ z ≤ 255) :
    Holds (w.setCell ⟨g, j, none⟩ (.int .u8 z)) R (star (row tU8 1 (.slice (some ⟨g, 0, none⟩) n cap) n (u8s (l.set j (UInt8.ofNat z.toNat)))) L) := by
  have h := H.rowSet j (.int .u8 z) (by omega)
  have e : (UInt8.ofNat z.toNat).toNat = z.toNat := by
    have : z.toNat < 256 := by omega
    simp [Nat.mod_eq_of_lt this]
  have e2 : (Value.int .u8 z) = .int .u8 ((UInt8.ofNat z.toNat).toNat : Int) := by rw [e, Int.toNat_of_nonneg hz.1]
  rw [e2, u8s_set] at h
  rw [e2]; exact h
/-- A new slice of bytes, empty. -/
theorem freshB {w : World} {R : Snap} {L : Asrt} (H : Holds w R L) : Holds (w.alloc (.cells #[] tU8)) R (star (rowB (.slice (some ⟨w.heap.size, 0, none⟩) 0 0) []) L) :=
  (H.alloc #[] tU8).toRow 1 0 0 (Nat.le_refl _) (Nat.zero_le _) rfl
/-- A block of bytes as a row. -/
theorem blkB {w : World} {R : Snap} {L : Asrt} {b n : Nat} {cs : Array Value} (H : Holds w R (star (blk b cs tU8) L)) (l : List UInt8) (h : cs.toList = u8s l) (hn : n = l.length) (hl : l.length ≤ 100000000) :
    Holds w R (star (rowB (.slice (some ⟨b, 0, none⟩) n n) l) L) := by
  have hs : cs.size = l.length := by rw [← Array.length_toList, h, u8s_length]
  subst hn
  have h1 := H.toRow 1 l.length l.length (Nat.le_refl _) (by simp only [maxLen]; omega) (by omega)
  rw [h, Nat.mul_one, List.take_of_length_le (by simp)] at h1
  exact h1
theorem blkRdB {w : World} {R : Snap} {L : Asrt} {b n : Nat} {cs : Array Value} (H : Holds w R (star (blk b cs tU8) L)) (l : List UInt8) (h : cs.toList = u8s l) (hn : n = l.length) (hl : l.length ≤ 100000000) :
    RdB w.cell? (.slice (some ⟨b, 0, none⟩) n n) l := (blkB H l h hn hl).rowRd

@[go_sem] theorem convConst (w : World) (C : Array Value) (n c : Nat) : (convert 22 22 (.slice (some ⟨w.heap.size, 0, none⟩) n c)).run Try.prog (w.alloc (.cells C 5)) = .ok (.slice (some ⟨w.heap.size, 0, none⟩) n c) (w.alloc (.cells C 5 (C.size, C.size + 1))) := Lib.run_convert_bytes_const w _ _ C n c undBytes Try.underlying5
/-- 'string(b)'. -/
theorem convStr {w : World} {v : Value} {l : List UInt8} (h : RdB w.cell? v l) : (convert 22 9 v).run Try.prog w = .ok (.string ⟨l.toArray⟩) w := by
  obtain ⟨a, c, rfl⟩ := h.form
  by_cases hn : 0 < l.length
  · obtain ⟨b, o, rfl, hc⟩ := RdB.open h hn
    rw [run_convert_bytes_arg w 22 5 undBytes Try.underlying5 b o l.length c (l.map fun x => (x.toNat : Int)) (by simp) (fun i hi => by rw [hc i hi]; simp [List.getD, hi]) 9 Try.underlying9]
    have e : (List.map (fun n : Int => UInt8.ofNat n.toNat) (l.map fun x => (x.toNat : Int))) = l := by
      rw [List.map_map]
      conv => rhs; rw [← List.map_id l]
      apply List.map_congr_left
      intro x _
      simp
    rw [strOfNums, e]
  · obtain rfl : l = [] := List.eq_nil_of_length_eq_zero (by omega)
    cases a with
    | none => rw [run_convert_bytes_nil w 22 5 undBytes Try.underlying5 _ c 9 Try.underlying9]; rfl
    | some ad =>
      rw [run_convert_bytes_string w 22 9 5 _ _ c undBytes Try.underlying5 Try.underlying9, run_bytesToString w _ _ c [] (by simp [loadCells, loadCellsFrom])]
      rfl
/-- slices.Clone of bytes. -/
theorem clone_spec {w : World} {R : Snap} {L : Asrt} {v : Value} {l : List UInt8} (H : Holds w R L) (hr : RdB w.cell? v l) (hn : l.length ≤ 1000000) :
    Calls Try.prog 108 #[v] w fun e w' => ∃ v', e = .returned v' ∧ Holds w' R (star (rowB v' l) L) := by
  obtain ⟨a, cap, rfl⟩ := hr.form
  cases a with
  | none =>
    obtain ⟨a', cap', e1, r1, r2, r3, r4, r5⟩ := id hr
    simp only [Value.slice.injEq, true_and] at e1
    obtain ⟨rfl, rfl⟩ := e1
    obtain rfl := r4 rfl
    obtain rfl : l = [] := List.eq_nil_of_length_eq_zero (by omega)
    clear r1 r2 r3 r4 r5 hr
    go_enter Try.func108, Try.ntmps108
    go_wp2_with fail
    go_ret
    exact ⟨_, rfl, H.nilRow _ 1⟩
  | some ad =>
    go_enter Try.func108, Try.ntmps108
    go_wp2_with (with_reducible refine stop_append ?_)
    have H1 : Holds _ R (star (rowB _ []) L) := (H.alloc #[] tU8).toRow 1 0 0 (Nat.le_refl _) (Nat.zero_le _) rfl
    have hr1 := hr.below ((Below.refl _ _).alloc (Nat.le_refl _) (.cells #[] tU8))
    refine Hold.go (wpList_appendB rfl _ _ rfl rfl rfl H1 hr1 (by simp; omega) ?_)
    intro v' w' H2
    go_wp2_with fail
    go_ret
    exact ⟨_, rfl, H2⟩

theorem take_snoc_eq {l k : List UInt8} {j : Nat} (hl : j < l.length) (hk : j < k.length) (h : l.take j = k.take j) (e : l[j] = k[j]) : l.take (j + 1) = k.take (j + 1) := by
  rw [List.take_succ_eq_append_getElem hl, List.take_succ_eq_append_getElem hk, h, e]

/-- sherdref01.Same. -/
theorem same_spec {w : World} {u v : Value} {l k : List UInt8} (hu : RdB w.cell? u l) (hv : RdB w.cell? v k) (hl : l.length ≤ 1000000) (hk : k.length ≤ 1000000) :
    Calls Try.prog 27 #[u, v] w fun e w' => e = .returned (.bool (decide (l = k))) ∧ ∃ q, w' = w.drewN q := by
  obtain ⟨a, ca, rfl⟩ := hu.form
  obtain ⟨b, cb, rfl⟩ := hv.form
  by_cases hlen : l.length = k.length
  · have HL : Hid (l.length = k.length) := hlen
    obtain ⟨n, hn⟩ : ∃ n, n = k.length := ⟨_, rfl⟩
    have HN : Hid (n = k.length) := hn
    have hcell : ∀ (q j : Nat) (h : j < n), ∃ x y : UInt8, ∃ b1 o1 b2 o2, a = some ⟨b1, o1, none⟩ ∧ b = some ⟨b2, o2, none⟩ ∧ w.cell? ⟨b1, o1 + j, none⟩ = some (.int .u8 x.toNat) ∧ w.cell? ⟨b2, o2 + j, none⟩ = some (.int .u8 y.toNat) ∧ Hid (l[j]? = some x ∧ k[j]? = some y) := by
      intro q j hj
      obtain ⟨b1, o1, rfl, h1⟩ := hu.open (by omega)
      obtain ⟨b2, o2, rfl, h2⟩ := hv.open (by omega)
      exact ⟨l[j], k[j], b1, o1, b2, o2, rfl, rfl, h1 j (by omega), h2 j (by omega), by simp, by simp⟩
    rw [hlen, ← hn]
    clear hlen hn hu hv
    have hn9 : n ≤ 1000000 := HN.out ▸ hk
    go_enter Try.func27, Try.ntmps27
    go_wp2_with fail
    go_loopw [5] (fun i wr => ∃ j : Nat, i = .int .i64 j ∧ j ≤ n ∧ Hid (l.take j = k.take j) ∧ ∃ q, wr = w.drewN q) (fun i _ => n - (intOf i).toNat)
    case atStart => exact ⟨0, rfl, Nat.zero_le _, rfl, 0, rfl⟩
    case round =>
      obtain ⟨j, rfl, hj, ht, q, rfl⟩ := hrel
      by_cases hlt : j < n
      · obtain ⟨x, y, b1, o1, b2, o2, rfl, rfl, c1, c2, hxy⟩ := hcell q j hlt
        go_wp2_with fail
        go_quiet (fail)
        go_wp2_with fail
        · rename_i hne
          go_ret
          refine ⟨ret_bool ?_, drewN2 _ _ _⟩
          symm; rw [decide_eq_false_iff_not]
          rintro rfl
          have := hxy.out.1.symm.trans hxy.out.2
          simp only [Option.some.injEq] at this
          subst this; simp at hne
        · rename_i he
          go_roundw
          case rel =>
            refine ⟨j + 1, by go_num, hlt, ?_, _, rfl⟩
            have e : x = y := u8_toNat_inj.1 (by simpa using he)
            obtain ⟨h1, h2⟩ := hxy.out
            have g1 := (List.getElem?_eq_some_iff.1 h1)
            have g2 := (List.getElem?_eq_some_iff.1 h2)
            exact take_snoc_eq g1.1 g2.1 ht.out (by rw [g1.2, g2.2, e])
          case measure => simp [intOf]; omega
      · go_wp2_with fail
        go_ret
        refine ⟨ret_bool ?_, _, rfl⟩
        symm; rw [decide_eq_true_eq]
        have h1 := ht.out
        have h2 := HL.out
        have h3 := HN.out
        rwa [List.take_of_length_le (by omega), List.take_of_length_le (by omega)] at h1
  · have h1 : ((l.length : Int) != (k.length : Int)) = true := by simp; omega
    go_enter Try.func27, Try.ntmps27
    go_wp2_with fail
    go_ret
    exact ⟨ret_bool (by symm; rw [decide_eq_false_iff_not]; rintro rfl; exact hlen rfl), 0, rfl⟩
end Sh
/- The packer (layer 6): contracts of the writer and the reader, and of the reference. -/
set_option linter.unusedVariables false
set_option linter.unusedSimpArgs false
namespace Sh
open Go Go.RowKit Go.Proofs
attribute [local go_sem ↓] Go.wp_at_zero Go.wp_at_succ
set_option maxHeartbeats 1000000
set_option maxRecDepth 100000

/-- The width of a number. -/
def wid (k : Int) : Nat := (min (max k 1) 4).toNat
/-- A number's bytes, the greatest first. -/
def be (k n : Nat) : List UInt8 := (List.range k).map fun i => UInt8.ofNat (n / 256 ^ (k - 1 - i))
def nb (k n : Int) : List UInt8 := be (wid k) (max n 0).toNat
theorem wid_bd (k : Int) : 1 ≤ wid k ∧ wid k ≤ 4 := by unfold wid; omega
theorem be_length (k n : Nat) : (be k n).length = k := by simp [be]
theorem nb_length (k n : Int) : (nb k n).length = wid k := be_length _ _
def wr (p : Nat) (l : List UInt8) : Asrt := ex fun v => star (blk p #[v] 153) (rowB v l)

theorem width_spec (k : Int) (w : World) : Calls Try.prog 181 #[.int .i64 k] w fun e w' => e = .returned (.int .i64 (wid k)) ∧ w = w' := by
  go_enter Try.func181, Try.ntmps181
  go_wp2_with fail
  go_ret
  exact ⟨ret_int (by unfold wid; omega), rfl⟩

theorem wr_open {w : World} {R : Snap} {L : Asrt} {p : Nat} {l : List UInt8} (H : Holds w R (star (wr p l) L)) : ∃ a c, Holds w R (star (blk p #[.slice a l.length c] 153) (star (rowB (.slice a l.length c) l) L)) := by
  obtain ⟨v, H1⟩ := H.unex
  replace H1 := H1.unstar
  obtain ⟨a, c, rfl⟩ := H1.swap.rowRd.form
  exact ⟨a, c, H1⟩
theorem wr_shut {w : World} {R : Snap} {L : Asrt} {p : Nat} {l : List UInt8} {v : Value} (H : Holds w R (star (blk p #[v] 153) (star (rowB v l) L))) : Holds w R (star (wr p l) L) := by
  have H1 := H.tostar
  exact Holds.toex (A := fun v => star (blk p #[v] 153) (rowB v l)) v H1
theorem be_take_succ (k n i : Nat) (h : i < k) : (be k n).take (i + 1) = (be k n).take i ++ [UInt8.ofNat (n / 256 ^ (k - 1 - i))] := by
  rw [List.take_succ_eq_append_getElem (by rw [be_length]; exact h)]
  simp [be]
theorem raw_spec {w : World} {R : Snap} {L : Asrt} {p : Nat} {l b : List UInt8} {v : Value} (H : Holds w R (star (wr p l) L)) (hl : l.length ≤ 1000000) (hb : b.length ≤ 1000000) (hr : RdB w.cell? v b) :
    Calls Try.prog 182 #[.pointer (some ⟨p, 0, none⟩), v] w fun e w' => e = .returned (.tuple #[]) ∧ Holds w' R (star (wr p (l ++ b)) L) := by
  obtain ⟨ab, cb, rfl⟩ := hr.form
  obtain ⟨a, c, H1⟩ := wr_open H
  have cp := H1.blkCell
  go_enter Try.func182, Try.ntmps182
  go_wp2_with (with_reducible refine stop_append ?_)
  refine Hold.go (wpList_appendB rfl _ _ rfl rfl rfl H1.swap hr (by omega) ?_)
  intro v2 w2 H2
  obtain ⟨a2, c2, rfl⟩ := H2.rowRd.form
  have cp := H2.swap.blkCell
  have fp := H2.swap.blkFrozen
  go_wp2_with fail
  go_end0
  have H3 := wr_shut (H2.swap.set 0 (.slice a2 (l ++ b).length c2))
  rw [List.length_append] at H3
  exact ⟨rfl, H3⟩
theorem bytes_spec {w : World} {R : Snap} {L : Asrt} {p : Nat} {l : List UInt8} (H : Holds w R (star (wr p l) L)) (hl : l.length ≤ 1000000) :
    Calls Try.prog 118 #[.pointer (some ⟨p, 0, none⟩)] w fun e w' => ∃ v, e = .returned v ∧ Holds w' R (star (rowB v l) (star (wr p l) L)) := by
  obtain ⟨a, c, H1⟩ := wr_open H
  have fp := H1.facts
  have hr := (H1.garbage (.cells #[] tU8)).swap.rowRd
  go_enter Try.func118, Try.ntmps118
  go_wp2_with (with_reducible refine stop_append ?_)
  refine Hold.go (wpList_appendB rfl _ _ rfl rfl rfl (freshB H) hr (by simp only [List.length_nil]; omega) ?_)
  intro v2 w2 H3
  go_wp2_with fail
  go_ret
  exact ⟨_, rfl, H3⟩
theorem num_spec {w : World} {R : Snap} {L : Asrt} {p : Nat} {l : List UInt8} {k n : Int} (H : Holds w R (star (wr p l) L)) (hl : l.length ≤ 1000000) (hn : n ≤ 9223372036854775807) :
    Calls Try.prog 115 #[.pointer (some ⟨p, 0, none⟩), .int .i64 k, .int .i64 n] w fun e w' => e = .returned (.tuple #[]) ∧ Holds w' R (star (wr p (l ++ nb k n)) L) := by
  go_enter Try.func115, Try.ntmps115
  go_wp2_with fail
  refine (width_spec _ _).mono ?_
  rintro e w1 ⟨rfl, rfl⟩
  obtain ⟨kk, hkk⟩ : ∃ kk, kk = wid k := ⟨_, rfl⟩
  obtain ⟨nn, hnn⟩ : ∃ nn : Nat, (nn : Int) = max n 0 := ⟨(max n 0).toNat, by omega⟩
  have HK := Hid.mk' hkk
  have HNN := Hid.mk' hnn
  have hk1 : 1 ≤ kk ∧ kk ≤ 4 := hkk ▸ wid_bd k
  obtain ⟨hk1, hk4⟩ := hk1
  have hn9 : nn ≤ 9223372036854775807 := by omega
  rw [← hkk]
  rw [← hnn]
  clear hkk hnn
  go_wp2_with fail
  go_loopw [12] (fun i wr' => ∃ j : Nat, i = .int .i64 j ∧ j ≤ kk ∧ Holds wr' R (star (wr p (l ++ (be kk nn).take j)) L)) (fun i _ => kk - (intOf i).toNat)
  case atStart => exact ⟨0, rfl, Nat.zero_le _, by simpa using H⟩
  case round =>
    obtain ⟨j, rfl, hj, H1⟩ := hrel
    by_cases hlt : j < kk
    · go_upto_region 5 with fail
      have hlen : (l ++ (be kk nn).take j).length = l.length + j := by simp [be_length]; omega
      generalize hlj : l ++ (be kk nn).take j = lj at H1 hlen
      have HLJ := Hid.mk' hlj
      obtain ⟨a, c, H2⟩ := wr_open H1
      have fp := H2.facts
      obtain ⟨q, hq⟩ : ∃ q, q = nn / 256 ^ (kk - 1 - j) := ⟨_, rfl⟩
      have HQ := Hid.mk' hq
      have e1 : IntKind.i64.wrap (8 * IntKind.i64.wrap (IntKind.i64.wrap ((kk : Int) - 1) - j)) = ((8 * (kk - 1 - j) : Nat) : Int) := by
        rw [IntWalk.i64_in ((kk : Int) - 1) (by omega), IntWalk.i64_in ((kk : Int) - 1 - j) (by omega), IntWalk.i64_in _ (by omega)]; omega
      have hsh : Op.shift .shr .i64 (nn : Int) .i64 (IntKind.i64.wrap (8 * IntKind.i64.wrap (IntKind.i64.wrap ((kk : Int) - 1) - j))) = pure (.int .i64 (q : Int)) := by
        rw [e1, shift_shr_any _ _ _ _ (by omega), Int.toNat_natCast, Nat.min_eq_left (by simp only [IntKind.bits]; omega), hq]
        rw [show (256 : Nat) = 2 ^ 8 from rfl, ← Nat.pow_mul]
        norm_cast
      obtain ⟨x, hx⟩ : ∃ x, x = UInt8.ofNat q := ⟨_, rfl⟩
      have HX := Hid.mk' hx
      have hw : IntKind.u8.wrap (q : Int) = (x.toNat : Int) := by rw [hx, IntKind.wrap_u8]; simp
      have H3 := (H2.alloc #[.int .u8 (x.toNat : Int)] tU8).drew
      have hl9 : lj.length ≤ 1000004 := by omega
      have HL := Hid.mk' hlen
      clear hlen
      have hr3 := blkRdB (n := 1) H3 [x] (by simp [u8s]) rfl (by simp)
      clear e1 hlj hq hx
      go_region_law ((refine step_appendB rfl _ _ (by rfl) (by rfl) (by rfl) H3.drop.swap hr3 (by simp; omega) ?_; intro v6 w6 H6; obtain ⟨a6, c6, rfl⟩ := H6.rowRd.form; have cp6 := H6.swap.blkCell; have fp6 := H6.swap.blkFrozen))
      all_goals
        go_wp2_with fail
        go_roundw
        case rel =>
          refine ⟨j + 1, by go_num, hlt, ?_⟩
          have H7 := wr_shut (H6.swap.set 0 (.slice a6 (lj ++ [x]).length c6))
          rw [List.length_append, List.length_singleton] at H7
          rw [be_take_succ kk nn j hlt, ← HQ.out, ← List.append_assoc, HLJ.out, ← HX.out]
          exact H7
        case measure => simp [intOf]; omega
    · go_wp2_with fail
      go_end0
      refine ⟨rfl, ?_⟩
      rw [List.take_of_length_le (by rw [be_length]; omega)] at H1
      have e1 := HK.out
      have e2 := HNN.out
      rw [show nb k n = be kk nn by unfold nb; rw [← e1, ← e2, Int.toNat_natCast]]
      exact H1
theorem text_spec {w : World} {R : Snap} {L : Asrt} {p : Nat} {l b : List UInt8} {v : Value} (H : Holds w R (star (wr p l) L)) (hl : l.length ≤ 900000) (hb : b.length ≤ 1000000) (hr : RdB R.cell? v b) :
    Calls Try.prog 116 #[.pointer (some ⟨p, 0, none⟩), v] w fun e w' => e = .returned (.tuple #[]) ∧ Holds w' R (star (wr p (l ++ nb 1 (min b.length 255 : Nat) ++ b.take 255)) L) := by
  obtain ⟨ab, cb, rfl⟩ := hr.form
  have hB := hr.bounds
  have i1 : (b.length : Int) ≤ cb := by omega
  obtain ⟨m, hm⟩ : ∃ m, m = min b.length 255 := ⟨_, rfl⟩
  have e1 : min (b.length : Int) 255 = m := by omega
  have hsub := RdB.pre hr m (by omega)
  rw [show b.take 255 = b.take m by rw [hm]; by_cases h : b.length ≤ 255 <;> simp [List.take_of_length_le, h, Nat.min_def]]
  rw [← hm]
  have hmb : (b.take m).length ≤ 255 := by simp; omega
  clear hm hB
  go_enter Try.func116, Try.ntmps116
  go_wp2_with fail
  refine (num_spec (k := 1) (n := m) H (by omega) (by omega)).mono ?_
  rintro e w1 ⟨rfl, H1⟩
  go_wp2_with fail
  refine (raw_spec H1 (by simp [nb_length]; have := wid_bd 1; omega) (by omega) (hsub.world H1)).mono ?_
  rintro e w2 ⟨rfl, H2⟩
  go_wp2_with fail
  go_end0
  exact ⟨rfl, H2⟩
end Sh
/- The packer (layer 6): contracts of the reader. -/
set_option linter.unusedVariables false
set_option linter.unusedSimpArgs false
namespace Sh
open Go Go.RowKit Go.Proofs
attribute [local go_sem ↓] Go.wp_at_zero Go.wp_at_succ
set_option maxHeartbeats 1000000
set_option maxRecDepth 100000

def cutOk (rest : List UInt8) (bad : Bool) (n : Nat) : Bool := !bad && decide (n ≤ rest.length)
def cutOut (rest : List UInt8) (bad : Bool) (n : Nat) : List UInt8 := if cutOk rest bad n then rest.take n else []
def cutRest (rest : List UInt8) (bad : Bool) (n : Nat) : List UInt8 := if cutOk rest bad n then rest.drop n else []
def valB (l : List UInt8) : Nat := l.foldl (fun a c => a * 256 + c.toNat) 0

theorem cut_spec {w : World} {R : Snap} {L : Asrt} {p : Nat} {v : Value} {rest : List UInt8} {bad : Bool} {n : Int} (H : Holds w R (star (blk p #[v, .bool bad] 211) L)) (hr : RdB R.cell? v rest) :
    Calls Try.prog 187 #[.pointer (some ⟨p, 0, none⟩), .int .i64 n] w fun e w' => ∃ out v', e = .returned out ∧ Holds w' R (star (blk p #[v', .bool (!cutOk rest bad n.toNat)] 211) L) ∧ RdB R.cell? v' (cutRest rest bad n.toNat) ∧ RdB R.cell? out (cutOut rest bad n.toNat) := by
  obtain ⟨a, c, rfl⟩ := hr.form
  have fp := H.facts
  obtain ⟨m, hm⟩ : ∃ m, m = n.toNat := ⟨_, rfl⟩
  have e1 : max n 0 = (m : Int) := by omega
  have hB := hr.bounds
  rw [← hm]
  clear hm
  by_cases hb : bad = true
  · subst hb
    go_enter Try.func187, Try.ntmps187
    go_wp2_with fail
    go_ret
    exact ⟨_, _, rfl, (H.set 0 (.slice none 0 0)).set 1 (.bool true), Rd.nil, Rd.nil⟩
  · obtain rfl : bad = false := by simpa using hb
    by_cases hn : m ≤ rest.length
    · have t1 : (decide ((rest.length : Int) < m)) = false := by simp; omega
      have hok : cutOk rest false m = true := by simp [cutOk, hn]
      have i1 : (m : Int) ≤ rest.length := by omega
      have i2 : (m : Int) ≤ c := by omega
      have h1 := RdB.sub hr m rest.length c hn (Nat.le_refl _) hB.1 (Nat.le_refl _)
      have h2 : RdB R.cell? (.slice a m m) (rest.take m) := by
        have e : (rest.take m).length = m := by simp; omega
        have h := RdB.pre hr m hn
        simp only [RdB, e] at h ⊢
        exact h.subCap m (Nat.le_refl _) (by omega)
      have HO := Hid.mk' hok
      clear hB hok
      go_enter Try.func187, Try.ntmps187
      go_wp2_with fail
      go_ret
      have e2 := HO.out
      rw [cutRest, cutOut, e2]
      rw [List.take_of_length_le (by simp)] at h1
      exact ⟨_, _, rfl, H.set 0 (.slice (adr a c m 1) (rest.length - m) (c - m)), h1, h2⟩
    · have t1 : (decide ((rest.length : Int) < m)) = true := by simp; omega
      have hok : cutOk rest false m = false := by simp [cutOk]; omega
      have HO := Hid.mk' hok
      clear hok hB
      go_enter Try.func187, Try.ntmps187
      go_wp2_with fail
      go_ret
      have e2 := HO.out
      rw [cutRest, cutOut, e2]
      exact ⟨_, _, rfl, (H.set 0 (.slice none 0 0)).set 1 (.bool true), Rd.nil, Rd.nil⟩
theorem cut_nil (w : World) (n : Int) : Calls Try.prog 187 #[.pointer none, .int .i64 n] w fun e w' => e = .returned (.slice none 0 0) ∧ w = w' := by
  go_enter Try.func187, Try.ntmps187
  go_wp2_with fail
  go_ret
  exact ⟨rfl, rfl⟩
theorem valB_snoc (l : List UInt8) (c : UInt8) : valB (l ++ [c]) = valB l * 256 + c.toNat := by simp [valB]
theorem valB_succ (l : List UInt8) (j : Nat) (h : j < l.length) : valB (l.take (j + 1)) = valB (l.take j) * 256 + l[j].toNat := by
  rw [List.take_succ_eq_append_getElem h, valB_snoc]
theorem valB_foldl_lt : ∀ (l : List UInt8) (a : Nat), l.foldl (fun a c => a * 256 + c.toNat) a < (a + 1) * 256 ^ l.length
  | [], a => by simp
  | c :: l, a => by
    have := valB_foldl_lt l (a * 256 + c.toNat)
    have hc := c.toNat_lt
    refine Nat.lt_of_lt_of_le this ?_
    rw [List.length_cons, Nat.pow_succ, Nat.mul_comm (256 ^ l.length) 256, ← Nat.mul_assoc]
    exact Nat.mul_le_mul_right _ (by omega)
theorem valB_lt (l : List UInt8) : valB l < 256 ^ l.length := by have := valB_foldl_lt l 0; simpa [valB] using this
theorem rnum_spec {w : World} {R : Snap} {L : Asrt} {p : Nat} {v : Value} {rest : List UInt8} {bad : Bool} {k : Int} (H : Holds w R (star (blk p #[v, .bool bad] 211) L)) (hr : RdB R.cell? v rest) :
    Calls Try.prog 127 #[.pointer (some ⟨p, 0, none⟩), .int .i64 k] w fun e w' => ∃ v', e = .returned (.int .i64 (valB (cutOut rest bad (wid k)))) ∧ Holds w' R (star (blk p #[v', .bool (!cutOk rest bad (wid k))] 211) L) ∧ RdB R.cell? v' (cutRest rest bad (wid k)) := by
  go_enter Try.func127, Try.ntmps127
  go_wp2_with fail
  refine (width_spec _ _).mono ?_
  rintro e w1 ⟨rfl, rfl⟩
  go_wp2_with fail
  refine (cut_spec H hr).mono ?_
  rintro e w1 ⟨out, v', rfl, H1, h1, h2⟩
  rw [Int.toNat_natCast] at H1 h1 h2
  obtain ⟨l, hl⟩ : ∃ l, l = cutOut rest bad (wid k) := ⟨_, rfl⟩
  rw [← hl] at h2
  have HL := Hid.mk' hl
  have hl4 : l.length ≤ 4 := by
    have := wid_bd k
    rw [hl, cutOut]; split <;> simp; omega
  clear hl
  obtain ⟨ao, co, rfl⟩ := h2.form
  go_wp2_with fail
  go_loop [6, 16] (fun n i => ∃ j : Nat, i = .int .i64 j ∧ j ≤ l.length ∧ n = .int .i64 (valB (l.take j))) (fun _ i => l.length - (intOf i).toNat)
  case atStart => exact ⟨0, rfl, Nat.zero_le _, rfl⟩
  case round =>
    obtain ⟨j, rfl, hj, rfl⟩ := hrel
    by_cases hlt : j < l.length
    · obtain ⟨bo, oo, rfl, hc⟩ := RdB.open (h2.world H1) (by omega)
      have cj := hc j hlt
      have hval := valB_succ l j hlt
      generalize l[j] = x at cj hval
      have hx := u8_lt x
      have hv := valB_lt (l.take j)
      have hv3 : valB (l.take j) < 16777216 := by
        have h3 : (l.take j).length ≤ 3 := by simp; omega
        exact Nat.lt_of_lt_of_le hv (Nat.pow_le_pow_right (n := 256) (by decide) h3)
      generalize valB (l.take j) = y at *
      have HV := Hid.mk' hval
      clear hval hc hv
      go_wp2_with fail
      go_round
      case rel =>
        refine ⟨j + 1, by go_num, hlt, ?_⟩
        rw [HV.out, bits_join .i64 40 (by decide) (fun n h0 h1 => IntWalk.i64_in n (by omega)) 8 _ _ (by omega) (by omega) (by omega) (by omega) (by omega) (by omega)]
        norm_cast
      case measure => simp [intOf]; omega
    · go_wp2_with fail
      go_ret
      rw [List.take_of_length_le (by omega), HL.out]
      first | exact ⟨_, rfl, H1, h1⟩ | exact ⟨rfl, _, H1, h1⟩
theorem rnum_nil (w : World) (k : Int) : Calls Try.prog 127 #[.pointer none, .int .i64 k] w fun e w' => e = .returned (.int .i64 0) ∧ w = w' := by
  go_enter Try.func127, Try.ntmps127
  go_wp2_with fail
  refine (width_spec _ _).mono ?_
  rintro e w1 ⟨rfl, rfl⟩
  go_wp2_with fail
  refine (cut_nil _ _).mono ?_
  rintro e w1 ⟨rfl, rfl⟩
  go_wp2_with fail
  go_loop [6, 16] (fun n i => n = .int .i64 0 ∧ i = .int .i64 0) (fun _ i => 0)
  case atStart => exact ⟨rfl, rfl⟩
  case round =>
    obtain ⟨rfl, rfl⟩ := hrel
    go_wp2_with fail
    go_ret
    exact ⟨rfl, rfl⟩
theorem rraw_spec {w : World} {R : Snap} {L : Asrt} {p : Nat} {v : Value} {rest : List UInt8} {bad : Bool} {n : Int} (H : Holds w R (star (blk p #[v, .bool bad] 211) L)) (hr : RdB R.cell? v rest) (hl : rest.length ≤ 1000000) :
    Calls Try.prog 188 #[.pointer (some ⟨p, 0, none⟩), .int .i64 n] w fun e w' => ∃ out v', e = .returned out ∧ Holds w' R (star (rowB out (cutOut rest bad n.toNat)) (star (blk p #[v', .bool (!cutOk rest bad n.toNat)] 211) L)) ∧ RdB R.cell? v' (cutRest rest bad n.toNat) := by
  have hl2 : (cutOut rest bad n.toNat).length ≤ 1000000 := by rw [cutOut]; split <;> simp; omega
  go_enter Try.func188, Try.ntmps188
  go_wp2_with (with_reducible refine stop_append ?_)
  refine (cut_spec (freshB H).swap hr).mono ?_
  rintro e w1 ⟨out, v', rfl, H1, h1, h2⟩
  go_wp2_with (with_reducible refine stop_append ?_)
  refine Hold.go (wpList_appendB rfl _ _ rfl rfl rfl H1.swap (h2.world H1) (by simp only [List.length_nil]; omega) ?_)
  intro v2 w2 H2
  go_wp2_with fail
  go_ret
  exact ⟨_, _, rfl, H2, h1⟩
theorem rraw_nil {w : World} {R : Snap} {L : Asrt} (H : Holds w R L) (n : Int) : Calls Try.prog 188 #[.pointer none, .int .i64 n] w fun e w' => ∃ out, e = .returned out ∧ Holds w' R (star (rowB out []) L) := by
  go_enter Try.func188, Try.ntmps188
  go_wp2_with (with_reducible refine stop_append ?_)
  refine (cut_nil _ _).mono ?_
  rintro e w1 ⟨rfl, rfl⟩
  go_wp2_with (with_reducible refine stop_append ?_)
  refine Hold.go (wpList_appendB rfl _ _ rfl rfl rfl (freshB H) RdB.nil (by simp) ?_)
  intro v2 w2 H2
  go_wp2_with fail
  go_ret
  exact ⟨_, rfl, H2⟩
theorem rtext_spec {w : World} {R : Snap} {L : Asrt} {p : Nat} {v : Value} {rest : List UInt8} {bad : Bool} (H : Holds w R (star (blk p #[v, .bool bad] 211) L)) (hr : RdB R.cell? v rest) (hl : rest.length ≤ 1000000) :
    Calls Try.prog 129 #[.pointer (some ⟨p, 0, none⟩)] w fun e w' => ∃ out v', e = .returned out ∧ Holds w' R (star (rowB out (cutOut (cutRest rest bad 1) (!cutOk rest bad 1) (valB (cutOut rest bad 1)))) (star (blk p #[v', .bool (!cutOk (cutRest rest bad 1) (!cutOk rest bad 1) (valB (cutOut rest bad 1)))] 211) L)) ∧ RdB R.cell? v' (cutRest (cutRest rest bad 1) (!cutOk rest bad 1) (valB (cutOut rest bad 1))) := by
  go_enter Try.func129, Try.ntmps129
  go_wp2_with fail
  refine (rnum_spec H hr).mono ?_
  rintro e w1 ⟨v1, rfl, H1, h1⟩
  go_wp2_with fail
  refine (rraw_spec H1 h1 (by rw [cutRest]; split <;> simp; omega)).mono ?_
  rintro e w2 ⟨out, v2, rfl, H2, h2⟩
  go_wp2_with fail
  go_ret
  rw [Int.toNat_natCast] at H2 h2
  exact ⟨_, _, rfl, H2, h2⟩
theorem rleft_spec {w : World} {R : Snap} {L : Asrt} {p : Nat} {v : Value} {rest : List UInt8} {bad : Bool} (H : Holds w R (star (blk p #[v, .bool bad] 211) L)) (hr : RdB R.cell? v rest) :
    Calls Try.prog 197 #[.pointer (some ⟨p, 0, none⟩)] w fun e w' => e = .returned (.int .i64 rest.length) ∧ w = w' := by
  obtain ⟨a, c, rfl⟩ := hr.form
  have fp := H.facts
  go_enter Try.func197, Try.ntmps197
  go_wp2_with fail
  go_ret
  exact ⟨rfl, rfl⟩
theorem rleft_nil (w : World) : Calls Try.prog 197 #[.pointer none] w fun e w' => e = .returned (.int .i64 0) ∧ w = w' := by
  go_enter Try.func197, Try.ntmps197
  go_wp2_with fail
  go_ret
  exact ⟨rfl, rfl⟩
theorem rgood_spec {w : World} {R : Snap} {L : Asrt} {p : Nat} {v : Value} {bad : Bool} (H : Holds w R (star (blk p #[v, .bool bad] 211) L)) :
    Calls Try.prog 189 #[.pointer (some ⟨p, 0, none⟩)] w fun e w' => e = .returned (.bool (!bad)) ∧ w = w' := by
  have fp := H.facts
  go_enter Try.func189, Try.ntmps189
  go_wp2_with fail
  go_ret
  exact ⟨rfl, rfl⟩
theorem rgood_nil (w : World) : Calls Try.prog 189 #[.pointer none] w fun e w' => e = .returned (.bool false) ∧ w = w' := by
  go_enter Try.func189, Try.ntmps189
  go_wp2_with fail
  go_ret
  exact ⟨rfl, rfl⟩
theorem rdone_spec {w : World} {R : Snap} {L : Asrt} {p : Nat} {v : Value} {rest : List UInt8} {bad : Bool} (H : Holds w R (star (blk p #[v, .bool bad] 211) L)) (hr : RdB R.cell? v rest) :
    Calls Try.prog 192 #[.pointer (some ⟨p, 0, none⟩)] w fun e w' => e = .returned (.bool (!bad && decide (rest.length = 0))) ∧ w = w' := by
  cases bad with
  | true =>
    go_enter Try.func192, Try.ntmps192
    go_wp2_with fail
    refine (rgood_spec H).mono ?_
    rintro e w1 ⟨rfl, rfl⟩
    go_wp2_with fail
    go_ret
    exact ⟨rfl, rfl⟩
  | false =>
    go_enter Try.func192, Try.ntmps192
    go_wp2_with fail
    refine (rgood_spec H).mono ?_
    rintro e w1 ⟨rfl, rfl⟩
    go_wp2_with fail
    refine (rleft_spec H hr).mono ?_
    rintro e w1 ⟨rfl, rfl⟩
    go_wp2_with fail
    go_ret
    exact ⟨ret_bool (by rw [Bool.eq_iff_iff]; simp), rfl⟩
theorem rdone_nil (w : World) : Calls Try.prog 192 #[.pointer none] w fun e w' => e = .returned (.bool false) ∧ w = w' := by
  go_enter Try.func192, Try.ntmps192
  go_wp2_with fail
  refine (rgood_nil _).mono ?_
  rintro e w1 ⟨rfl, rfl⟩
  go_wp2_with fail
  go_ret
  exact ⟨rfl, rfl⟩
theorem read_spec {w : World} {R : Snap} {L : Asrt} {v : Value} {b : List UInt8} (H : Holds w R L) (hr : RdB R.cell? v b) :
    Calls Try.prog 126 #[v] w fun e w' => ∃ p, e = .returned (.pointer (some ⟨p, 0, none⟩)) ∧ Holds w' R (star (blk p #[v, .bool false] 211) L) := by
  obtain ⟨a, c, rfl⟩ := hr.form
  go_enter Try.func126, Try.ntmps126
  go_wp2_with fail
  go_ret
  exact ⟨_, rfl, H.alloc _ _⟩
end Sh
/- The packer's reference (sherdref06): contracts. -/
set_option linter.unusedVariables false
set_option linter.unusedSimpArgs false
namespace Sh
open Go Go.RowKit Go.Proofs
attribute [local go_sem ↓] Go.wp_at_zero Go.wp_at_succ
set_option maxHeartbeats 1000000
set_option maxRecDepth 100000

theorem rwidth_spec (k : Int) (w : World) : Calls Try.prog 190 #[.int .i64 k] w fun e w' => e = .returned (.int .i64 (wid k)) ∧ w = w' := by
  by_cases h1 : k < 1
  · go_enter Try.func190, Try.ntmps190
    go_wp2_with fail
    go_ret
    exact ⟨ret_int (by unfold wid; omega), rfl⟩
  · by_cases h2 : 4 < k
    · go_enter Try.func190, Try.ntmps190
      go_wp2_with fail
      go_ret
      exact ⟨ret_int (by unfold wid; omega), rfl⟩
    · go_enter Try.func190, Try.ntmps190
      go_wp2_with fail
      go_ret
      exact ⟨ret_int (by unfold wid; omega), rfl⟩

theorem be_drop (k n i : Nat) (h : i < k) : (be k n).drop i = UInt8.ofNat (n / 256 ^ (k - 1 - i)) :: (be k n).drop (i + 1) := by
  rw [List.drop_eq_getElem_cons (by rw [be_length]; exact h)]
  simp [be]
theorem refnum_spec {w : World} {R : Snap} {L : Asrt} {k n : Int} (H : Holds w R L) (hn : n ≤ 9223372036854775807) :
    Calls Try.prog 133 #[.int .i64 k, .int .i64 n] w fun e w' => ∃ v, e = .returned v ∧ Holds w' R (star (rowB v (nb k n)) L) := by
  obtain ⟨kk, hkk⟩ : ∃ kk, kk = wid k := ⟨_, rfl⟩
  obtain ⟨nn, hnn⟩ : ∃ nn : Nat, (nn : Int) = max n 0 := ⟨(max n 0).toNat, by omega⟩
  have HK := Hid.mk' hkk
  have HNN := Hid.mk' hnn
  have hk1 : 1 ≤ kk ∧ kk ≤ 4 := hkk ▸ wid_bd k
  obtain ⟨hk1, hk4⟩ := hk1
  have hn9 : nn ≤ 9223372036854775807 := by omega
  have hnb : nb k n = be kk nn := by unfold nb; rw [← hkk, ← hnn, Int.toNat_natCast]
  have HNB := Hid.mk' hnb
  go_enter Try.func133, Try.ntmps133
  go_wp2_with fail
  refine (rwidth_spec _ _).mono ?_
  rintro e w1 ⟨rfl, rfl⟩
  rw [← hkk]
  clear hkk hnb
  go_upto_if 10 with fail
  go_cut [1] (fun s1 wx => s1 = .int .i64 nn ∧ wx = w)
  case first =>
    go_wp2_with fail
    · go_meet
      case rel => exact ⟨by rw [show (nn : Int) = 0 by omega], rfl⟩
    · go_meet
      case rel => exact ⟨by rw [show (nn : Int) = n by omega], rfl⟩
  obtain ⟨rfl, rfl⟩ := hcut
  clear hnn
  go_wp2_with (with_reducible refine stop_make ?_)
  refine Hold.go (wpList_makeB rfl _ _ rfl rfl rfl H (by omega) ?_)
  intro v2 w2 H2
  obtain ⟨a2, c2, rfl⟩ := H2.rowRd.form
  simp only [rowB, List.length_replicate] at H2 ⊢
  go_wp2_with fail
  go_loopw [1, 6] (fun n i wr => ∃ j : Nat, i = .int .i64 ((j : Int) - 1) ∧ j ≤ kk ∧ n = .int .i64 ((nn / 256 ^ (kk - j) : Nat) : Int) ∧ Holds wr R (star (row tU8 1 (.slice a2 kk c2) kk (u8s (List.replicate j 0 ++ (be kk nn).drop j))) L)) (fun _ i _ => (intOf i + 1).toNat)
  case atStart => exact ⟨kk, rfl, Nat.le_refl _, by simp, by rw [List.drop_of_length_le (by rw [be_length]; omega), List.append_nil]; exact H2⟩
  case round =>
    obtain ⟨j, rfl, hj, rfl, H3⟩ := hrel
    cases j with
    | zero =>
      go_wp2_with fail
      go_ret
      have e := HNB.out
      rw [e]
      refine ⟨_, rfl, ?_⟩
      show Holds _ R (star (row tU8 1 _ (be kk nn).length _) L)
      rw [be_length]
      exact H3
    | succ t =>
      have e0 : ((t + 1 : Nat) : Int) - 1 = (t : Int) := by omega
      rw [e0]
      obtain ⟨g, cap, e1, hc, hg2, hcl, hfz⟩ := H3.rowAt (by omega)
      simp only [Value.slice.injEq, true_and] at e1
      obtain ⟨rfl, rfl⟩ := e1
      have ct := hcl t (.int .u8 0) (by
        rw [show (Value.int .u8 0) = .int .u8 ((0 : UInt8).toNat : Int) from rfl]
        have hlt : t < (List.replicate (t + 1) (0 : UInt8) ++ (be kk nn).drop (t + 1)).length := by simp; omega
        rw [u8s_get _ _ hlt, List.getElem_append_left (by simp)]; simp)
      clear hcl
      obtain ⟨y, hy⟩ : ∃ y, y = nn / 256 ^ (kk - (t + 1)) := ⟨_, rfl⟩
      rw [← hy]
      have hy9 : y ≤ 9223372036854775807 := by rw [hy]; exact Nat.le_trans (Nat.div_le_self _ _) hn9
      have HY := Hid.mk' hy
      clear hy e0
      go_wp2_with fail
      go_roundw
      case rel =>
        refine ⟨t, rfl, by omega, ?_, ?_⟩
        · have e : nn / 256 ^ (kk - t) = y / 256 := by
            rw [HY.out, Nat.div_div_eq_div_mul, ← Nat.pow_succ, show (kk - (t + 1)).succ = kk - t by omega]
          rw [e]; norm_cast
        · have h := row_write H3 t ((y : Int) % 256) (by omega) (by omega)
          have e2 : (List.replicate (t + 1) (0 : UInt8) ++ (be kk nn).drop (t + 1)).set t (UInt8.ofNat ((y : Int) % 256).toNat) = List.replicate t 0 ++ (be kk nn).drop t := by
            rw [be_drop kk nn t (by omega), List.replicate_succ', List.append_assoc, List.set_append_right _ _ (by rw [List.length_replicate]; exact Nat.le_refl _)]
            rw [List.length_replicate, Nat.sub_self, List.singleton_append, List.set_cons_zero]
            have e3 : UInt8.ofNat ((y : Int) % 256).toNat = UInt8.ofNat (nn / 256 ^ (kk - 1 - t)) := by
              rw [show kk - 1 - t = kk - (t + 1) by omega, ← HY.out]
              apply UInt8.toNat_inj.1
              rw [show ((y : Int) % 256).toNat = y % 256 by omega]
              simp
            rw [e3]
          rw [e2] at h
          exact h
      case measure => simp [intOf]
theorem nb_one (m : Nat) : nb 1 (m : Int) = [UInt8.ofNat m] := by
  have e : (max (m : Int) 0).toNat = m := by omega
  unfold nb; rw [e, show wid 1 = 1 from rfl]; simp [be]
def cutAt (b : List UInt8) (at_ : Nat) (bad : Bool) (n : Nat) : Nat := if cutOk (b.drop at_) bad n then at_ + n else b.length
theorem reftext_spec {w : World} {R : Snap} {L : Asrt} {v : Value} {b : List UInt8} (H : Holds w R L) (hr : RdB R.cell? v b) (hb : b.length ≤ 1000000) :
    Calls Try.prog 134 #[v] w fun e w' => ∃ v', e = .returned v' ∧ Holds w' R (star (rowB v' (nb 1 (min b.length 255 : Nat) ++ b.take 255)) L) := by
  obtain ⟨ab, cb, rfl⟩ := hr.form
  go_enter Try.func134, Try.ntmps134
  obtain ⟨m, hm⟩ : ∃ m, m = min b.length 255 := ⟨_, rfl⟩
  have hB := hr.bounds
  have hm9 : m ≤ 255 := by omega
  go_upto_if 5 with fail
  go_cut [0] (fun s0 wx => s0 = .slice ab m cb ∧ wx = w)
  case first =>
    have i1 : (255 : Int) ≤ cb ∨ b.length ≤ 255 := by omega
    go_wp2_with fail
    · go_meet
      case rel => exact ⟨by rw [show m = 255 by omega], rfl⟩
    · go_meet
      case rel => exact ⟨by rw [show m = b.length by omega], rfl⟩
  obtain ⟨rfl, rfl⟩ := hcut
  have hsub := RdB.pre hr m (by omega)
  have e1 : nb 1 (min b.length 255 : Nat) ++ b.take 255 = [UInt8.ofNat m] ++ b.take m := by
    rw [← hm, show b.take 255 = b.take m by rw [hm]; by_cases h : b.length ≤ 255 <;> simp [List.take_of_length_le, h, Nat.min_def]]
    rw [nb_one]
  have HE := Hid.mk' e1
  clear e1 hm
  have hw : IntKind.u8.wrap (m : Int) = ((UInt8.ofNat m).toNat : Int) := by rw [IntKind.wrap_u8]; simp
  have H2 := H.alloc #[.int .u8 ((UInt8.ofNat m).toNat : Int)] tU8
  have H3 := blkB (n := 1) H2 [UInt8.ofNat m] (by simp [u8s]) rfl (by simp)
  have hl3 : (b.take m).length ≤ 255 := by simp; omega
  go_wp2_with (with_reducible refine stop_append ?_)
  refine Hold.go (wpList_appendB rfl _ _ rfl rfl rfl H3 (hsub.world H3) (by simp only [List.length_singleton]; omega) ?_)
  intro v2 w2 H4
  go_wp2_with fail
  go_ret
  rw [HE.out]
  exact ⟨_, rfl, H4⟩
theorem refraw_spec {w : World} {R : Snap} {L : Asrt} {p at_ : Nat} {v : Value} {b : List UInt8} {bad : Bool} {n : Int} (H : Holds w R (star (blk p #[v, .int .i64 at_, .bool bad] 167) L)) (hr : RdB R.cell? v b) (ha : at_ ≤ b.length) (hb : b.length ≤ 1000000) :
    Calls Try.prog 152 #[.pointer (some ⟨p, 0, none⟩), .int .i64 n] w fun e w' => ∃ out, e = .returned out ∧ Holds w' R (star (rowB out (cutOut (b.drop at_) bad n.toNat)) (star (blk p #[v, .int .i64 (cutAt b at_ bad n.toNat), .bool (!cutOk (b.drop at_) bad n.toNat)] 167) L)) := by
  obtain ⟨ab, cb, rfl⟩ := hr.form
  have fp := H.facts
  go_enter Try.func152, Try.ntmps152
  obtain ⟨m, hm⟩ : ∃ m, m = n.toNat := ⟨_, rfl⟩
  go_upto_if 6 with fail
  go_cut [1] (fun s1 wx => s1 = .int .i64 m ∧ wx = w)
  case first =>
    go_wp2_with fail
    · go_meet
      case rel => exact ⟨by rw [show (m : Int) = 0 by omega], rfl⟩
    · go_meet
      case rel => exact ⟨by rw [show (m : Int) = n by omega], rfl⟩
  obtain ⟨rfl, rfl⟩ := hcut
  have HM := Hid.mk' hm
  clear hm
  have hdl : (b.drop at_).length = b.length - at_ := by simp
  by_cases hok : cutOk (b.drop at_) bad m = true
  · obtain ⟨hb1, hm2⟩ : bad = false ∧ m ≤ b.length - at_ := by simpa [cutOk, hdl] using hok
    subst hb1
    have HOK := Hid.mk' hok
    have t1 : (decide ((b.length : Int) - at_ < m)) = false := by simp; omega
    clear hok hdl
    go_wp2_with fail
    go_quiet (fail)
    go_wp2_with fail
    have H2 := (H.drewN nq).set 1 (.int .i64 ((at_ : Int) + m))
    generalize (World.setCell _ _ _) = w2 at H2 ⊢
    obtain ⟨a2, ha2⟩ : ∃ a2, a2 = at_ + m := ⟨_, rfl⟩
    rw [show (at_ : Int) + m = (a2 : Int) by omega] at H2
    clear fp
    obtain ⟨lp, np, cp, zp⟩ := Holds.facts (H2)
    have HA := Hid.mk' ha2
    have e1 : IntKind.i64.wrap ((a2 : Int) - m) = at_ := by rw [IntWalk.i64_in _ (by omega)]; omega
    have i1 : (at_ : Int) ≤ a2 := by omega
    have hB := hr.bounds
    have i2 : (a2 : Int) ≤ cb := by omega
    have i3 : (0 : Int) ≤ at_ := by omega
    have hsub := RdB.sub (hr.world H2) at_ a2 cb (by omega) (by omega) (by omega) (Nat.le_refl _)
    have hlen : ((b.drop at_).take (a2 - at_)).length ≤ 1000000 := by simp; omega
    clear ha2 hB
    have hr4 : RdB ((w2.alloc (.cells #[] tU8)).drew).cell? _ _ := hsub.below ((Below.refl _ _).alloc (Nat.le_refl _) _).drew
    have H3 : Holds _ R (star (rowB _ []) (star (blk p #[.slice ab b.length cb, .int .i64 a2, .bool false] 167) L)) := (freshB H2).drew
    go_region_held3 (fun w' => (∀ o, w'.cell? ⟨p, o, none⟩ = #[.slice ab b.length cb, Value.int .i64 a2, .bool false][o]?)) (first | (exact H4.swap.blkCell) | ((repeat' (first | assumption | (with_reducible refine And.intro ?_ ?_) | (with_reducible refine keep_drew ?_) | (with_reducible refine keep_drewN ?_) | (with_reducible refine keep_alloc ?_ (by first | assumption | (simp only [World.size_alloc, World.size_drew, World.size_setCell]; omega))) | (with_reducible refine keep_set ?_ (by first | assumption | omega)))))) ((refine step_appendB rfl _ _ (by rfl) (by rfl) (by rfl) H3 hr4 (by simp only [List.length_nil]; omega) ?_; intro v4 w4 H4))
    all_goals
      go_wp2_with fail
      go_ret
      have e2 := HA.out
      subst e2
      have e3 := HOK.out
      rw [Nat.add_sub_cancel_left, List.nil_append] at H4
      rw [cutOut, cutAt, ← HM.out, e3]
      exact ⟨_, rfl, H4⟩
  · have hok2 : cutOk (b.drop at_) bad m = false := by simpa using hok
    have HOK := Hid.mk' hok2
    have hgt : bad = false → (b.length : Int) - at_ < m := fun e => by rw [e] at hok2; simp [cutOk] at hok2; omega
    clear hok hok2 hdl
    have fin : ∀ w', Holds w' R (star (blk p #[.slice ab b.length cb, .int .i64 (b.length : Nat), .bool true] 167) L) → Holds w' R (star (rowB (.slice none 0 0) (cutOut (b.drop at_) bad n.toNat)) (star (blk p #[.slice ab b.length cb, .int .i64 (cutAt b at_ bad n.toNat), .bool (!cutOk (b.drop at_) bad n.toNat)] 167) L)) := fun w' h => by
      have e3 := HOK.out
      rw [cutOut, cutAt, ← HM.out, e3]
      exact h.nilRow _ 1
    have FIN := Hid.mk' fin
    clear fin
    cases bad with
    | true =>
      clear hgt
      go_wp2_with fail
      go_quiet (fail)
      go_wp2_with fail
      go_ret
      exact ⟨_, rfl, FIN.out _ (((H.drewN _).set 2 (.bool true)).set 1 (.int .i64 b.length))⟩
    | false =>
      have hgt := hgt rfl
      have t1 : (decide ((b.length : Int) - at_ < m)) = true := by simp; omega
      go_wp2_with fail
      go_quiet (fail)
      go_wp2_with fail
      go_ret
      exact ⟨_, rfl, FIN.out _ (((H.drewN _).set 2 (.bool true)).set 1 (.int .i64 b.length))⟩
theorem refrnum_spec {w : World} {R : Snap} {L : Asrt} {p at_ : Nat} {v : Value} {b : List UInt8} {bad : Bool} {k : Int} (H : Holds w R (star (blk p #[v, .int .i64 at_, .bool bad] 167) L)) (hr : RdB R.cell? v b) (ha : at_ ≤ b.length) (hb : b.length ≤ 1000000) :
    Calls Try.prog 137 #[.pointer (some ⟨p, 0, none⟩), .int .i64 k] w fun e w' => e = .returned (.int .i64 (valB (cutOut (b.drop at_) bad (wid k)))) ∧ Holds w' R (star (blk p #[v, .int .i64 (cutAt b at_ bad (wid k)), .bool (!cutOk (b.drop at_) bad (wid k))] 167) L) := by
  go_enter Try.func137, Try.ntmps137
  go_wp2_with fail
  refine (rwidth_spec _ _).mono ?_
  rintro e w1 ⟨rfl, rfl⟩
  go_wp2_with fail
  refine (refraw_spec H hr ha hb).mono ?_
  rintro e w1 ⟨out, rfl, H1⟩
  rw [Int.toNat_natCast] at H1
  obtain ⟨ao, co, rfl⟩ := H1.rowRd.form
  obtain ⟨l, hl⟩ : ∃ l, l = cutOut (b.drop at_) bad (wid k) := ⟨_, rfl⟩
  rw [← hl] at H1
  have HL := Hid.mk' hl
  have hl4 : l.length ≤ 4 := by
    have := wid_bd k
    rw [hl, cutOut]; split <;> simp; omega
  rw [← hl]
  clear hl
  have h2 : RdB w1.cell? (.slice ao l.length co) l := H1.rowRd
  go_wp2_with fail
  go_loop [6, 7] (fun n i => ∃ j : Nat, i = .int .i64 j ∧ j ≤ l.length ∧ n = .int .i64 (valB (l.take j))) (fun _ i => l.length - (intOf i).toNat)
  case atStart => exact ⟨0, rfl, Nat.zero_le _, rfl⟩
  case round =>
    obtain ⟨j, rfl, hj, rfl⟩ := hrel
    by_cases hlt : j < l.length
    · obtain ⟨bo, oo, rfl, hc⟩ := RdB.open h2 (by omega)
      have cj := hc j hlt
      have hval := valB_succ l j hlt
      generalize l[j] = x at cj hval
      have hx := u8_lt x
      have hv := valB_lt (l.take j)
      have hv3 : valB (l.take j) < 16777216 := by
        have h3 : (l.take j).length ≤ 3 := by simp; omega
        exact Nat.lt_of_lt_of_le hv (Nat.pow_le_pow_right (n := 256) (by decide) h3)
      generalize valB (l.take j) = y at *
      have HV := Hid.mk' hval
      clear hval hc hv
      go_wp2_with fail
      go_round
      case rel => exact ⟨j + 1, by go_num, hlt, by rw [HV.out]; go_num⟩
      case measure => simp [intOf]; omega
    · go_wp2_with fail
      go_ret
      rw [List.take_of_length_le (by omega), HL.out]
      exact ⟨rfl, H1.drop⟩
theorem cutAt_le {b : List UInt8} {a n : Nat} {bad : Bool} (h : a ≤ b.length) : cutAt b a bad n ≤ b.length := by
  unfold cutAt; split
  · rename_i h1; simp [cutOk] at h1; omega
  · exact Nat.le_refl _
theorem drop_cutAt {b : List UInt8} {a n : Nat} {bad : Bool} : b.drop (cutAt b a bad n) = cutRest (b.drop a) bad n := by
  unfold cutAt cutRest; split
  · rw [List.drop_drop]
  · simp
theorem refrtext_spec {w : World} {R : Snap} {L : Asrt} {p at_ : Nat} {v : Value} {b : List UInt8} {bad : Bool} (H : Holds w R (star (blk p #[v, .int .i64 at_, .bool bad] 167) L)) (hr : RdB R.cell? v b) (ha : at_ ≤ b.length) (hb : b.length ≤ 1000000) :
    Calls Try.prog 138 #[.pointer (some ⟨p, 0, none⟩)] w fun e w' => ∃ out, e = .returned out ∧ Holds w' R (star (rowB out (cutOut (cutRest (b.drop at_) bad 1) (!cutOk (b.drop at_) bad 1) (valB (cutOut (b.drop at_) bad 1)))) (star (blk p #[v, .int .i64 (cutAt b (cutAt b at_ bad 1) (!cutOk (b.drop at_) bad 1) (valB (cutOut (b.drop at_) bad 1))), .bool (!cutOk (cutRest (b.drop at_) bad 1) (!cutOk (b.drop at_) bad 1) (valB (cutOut (b.drop at_) bad 1)))] 167) L)) := by
  go_enter Try.func138, Try.ntmps138
  go_wp2_with fail
  refine (refrnum_spec H hr ha hb).mono ?_
  rintro e w1 ⟨rfl, H1⟩
  rw [show wid 1 = 1 from rfl] at H1 ⊢
  go_wp2_with fail
  refine (refraw_spec H1 hr (cutAt_le ha) hb).mono ?_
  rintro e w2 ⟨out, rfl, H2⟩
  rw [Int.toNat_natCast, drop_cutAt] at H2
  go_wp2_with fail
  go_ret
  exact ⟨_, rfl, H2⟩
end Sh
