/- Row Enter Tab Mem Secs Elts Pack: joined texts, each with its own sentence below. -/
import Derived.Test.YtmogagcffebbaaaJd1
import Derived.ProofKit
import Derived.OpenShut
import Derived.ShutString
import Derived.ChangeOld
import Derived.SizedLaws
import Derived.Deep.Slices
import Derived.Test.YtmogagcffebbaaaProg
import Derived.JoinedOf
import Derived.KernelRfl
import Derived.WalkLawsBesides
import Derived.WalkSpells
import Derived.Deep.QuietTactic
import Derived.BigQuiet
import Derived.Deep.RegionHeld3
import Derived.Deep.DrawnRows
import Derived.Deep.RegionLaw
import Derived.StillTailTactics
import Derived.Lib.SlBytesConst
import Derived.Deep.DeepCutAuto
import Derived.Deep.CutBlock
import Derived.Deep.LoopGhost
import Derived.Laws.CopyOwn
import Derived.Laws.Rows
/- What the arguments of a law read as: from the claim's own reading (DataW.trod) to this seat's words. -/
set_option linter.unusedVariables false
set_option linter.unusedSimpArgs false
namespace Sh
open Go Go.RowKit

section
variable {H : Type} {enc : TypeId × Value → H} {P : Program} {w : World} {base : Nat} {spare : Nat → Bool} {held : Bool} {fuel : Nat} {t e : TypeId} {cs : List Value} {x : DataW H × List MemPlace}

theorem read_int {k : IntKind} (ht : P.underlying t = some (.int k)) (h : DataW.trod enc P w base spare held fuel t cs = some x) : ∃ n, cs = [.int k n] ∧ k.min ≤ n ∧ n ≤ k.max := by
  obtain ⟨n, h1, _, h3⟩ := DataW.trod_int ht h
  refine ⟨n, h1, ?_⟩
  simpa [Lit.wf] using h3
theorem read_string (ht : P.underlying t = some .string) (h : DataW.trod enc P w base spare held fuel t cs = some x) : ∃ s : ByteArray, cs = [.string s] ∧ s.size ≤ maxLen := by
  obtain ⟨s, h1, _, h3⟩ := DataW.trod_string ht h
  exact ⟨s, h1, h3⟩

theorem read_slice {α : Type} [Inhabited α] {sz : Nat} {f : α → List Value} {Good : α → Prop} (hf : ∀ a, (f a).length = sz) (hsz : 0 < sz) (ht : P.underlying t = some (.slice e)) (hc : P.cellsOf e = sz)
    (hK : ∀ (fuel : Nat) (cs : List Value) (x : DataW H × List MemPlace), DataW.trod enc P w base spare held fuel e cs = some x → ∃ a, cs = f a ∧ Good a)
    (h : DataW.trod enc P w base spare held fuel t cs = some x) : ∃ (v : Value) (l : List α), cs = [v] ∧ Rd w.cell? sz v l.length (l.flatMap f) ∧ ∀ a ∈ l, Good a := by
  rcases Deep.open_slice ht h with ⟨rfl, _⟩ | ⟨a, len, cap, m, n, D, Pl, rfl, hb, hl, hm, hmm, _, hx⟩
  · exact ⟨_, [], rfl, Rd.nil, fun _ h => by cases h⟩
  · have hle : len ≤ m := by rw [hmm]; split <;> omega
    obtain ⟨g, hg⟩ := Deep.choose_lt (α := α) (n := len) (p := fun i y => w.cells? base (a.add (i * P.cellsOf e)) (P.cellsOf e) = some (f y) ∧ Good y) (fun i hi => by
      obtain ⟨cs', h1, h2⟩ := hx i (by omega)
      obtain ⟨y, rfl, hy⟩ := hK _ _ _ h2
      exact ⟨y, h1, hy⟩)
    refine ⟨_, (List.range len).map g, rfl, ?_, fun y hy => ?_⟩
    · have e1 : ((List.range len).map g).length = len := by simp
      rw [e1]
      refine ⟨_, _, rfl, hl, hm, by rw [flat_len f sz hf, e1], (fun h => by cases h), ?_⟩
      intro b o s ha j u hu
      simp only [Option.some.injEq] at ha
      subst ha
      have hj : j < len * sz := by
        have := (List.getElem?_eq_some_iff.1 hu).1
        rwa [flat_len f sz hf, e1] at this
      have hq : j / sz < len := Nat.div_lt_of_lt_mul (by rw [Nat.mul_comm]; exact hj)
      have hr : j % sz < sz := Nat.mod_lt _ hsz
      have hjj : j / sz * sz + j % sz = j := Nat.div_add_mod' j sz
      have hu2 : (f (g (j / sz)))[j % sz]? = some u := by
        rw [← hjj, flat_get f sz hf _ _ _ (by rw [e1]; exact hq) hr] at hu
        simpa using hu
      have hcl := World.cells?_some (hg _ hq).1
      have hcell := (hcl.2.2 (j % sz) (by rw [hc]; exact hr)).trans hu2
      rw [hc, Deep.add_add, hjj] at hcell
      have hs : s = none := by
        have h0 := World.cells?_some (hg 0 (Nat.lt_of_le_of_lt (Nat.zero_le _) hq)).1
        have h1 := (h0.2.2 0 (by rw [hc]; exact hsz)).trans (List.getElem?_eq_getElem (by rw [hf]; exact hsz))
        rw [Nat.zero_mul, Deep.add_add] at h1
        simpa [Addr.add] using World.cell?_spot h1
      subst hs
      rw [add_plain] at hcell
      exact ⟨rfl, hcell⟩
    · obtain ⟨i, hi, rfl⟩ := List.mem_map.1 hy
      exact (hg i (List.mem_range.1 hi)).2

/-- A struct's field, as it reads. -/
theorem read_fields {fs : Array Field} (ht : P.underlying t = some (.struct fs)) (h : DataW.trod enc P w base spare held fuel t cs = some x) :
    cs.length = P.cellsOf t ∧ ∃ n, ∀ (i : Nat) (f : Field), fs[i]? = some f → ∃ y, DataW.trod enc P w base spare held n f.type ((cs.drop f.offset).take (P.cellsOf f.type)) = some y := by
  obtain ⟨xs, n, rfl, _, hl, hx, hf⟩ := DataW.trod_struct ht h
  refine ⟨hl, n, fun i f hi => ?_⟩
  have hlt : i < xs.length := by rw [hx]; exact (Array.getElem?_eq_some_iff.1 hi).1
  exact ⟨xs[i], (hf i f hi).trans (List.getElem?_eq_getElem hlt)⟩
theorem wf_bounds {k : IntKind} {n : Int} (h : (Lit.int k n).wf = true) : k.min ≤ n ∧ n ≤ k.max := by simpa [Lit.wf] using h
theorem flat_single {α β : Type} (f : α → β) : ∀ l : List α, (l.flatMap fun a => [f a]) = l.map f
  | [] => rfl
  | a :: l => by rw [List.flatMap_cons, flat_single f l]; rfl

theorem read_bytes (ht : P.underlying t = some (.slice e)) (he : P.underlying e = some (.int .u8)) (hc : P.cellsOf e = 1) (h : DataW.trod enc P w base spare held fuel t cs = some x) : ∃ (v : Value) (l : List UInt8), cs = [v] ∧ RdB w.cell? v l := by
  obtain ⟨v, l, h1, h2, _⟩ := read_slice (α := UInt8) (f := fun c => [.int .u8 (c.toNat : Int)]) (Good := fun _ => True) (sz := 1) (fun _ => rfl) (by decide) ht hc (fun fuel cs x hx => by
    obtain ⟨n, rfl, h1, h2⟩ := read_int he hx
    have h1 : (0 : Int) ≤ n := h1
    have h2 : n ≤ 255 := h2
    refine ⟨UInt8.ofNat n.toNat, ?_, trivial⟩
    have h3 : n.toNat < 256 := by omega
    have e : (UInt8.ofNat n.toNat).toNat = n.toNat := by simp [Nat.mod_eq_of_lt h3]
    rw [e, Int.toNat_of_nonneg h1]) h
  refine ⟨v, l, h1, ?_⟩
  rw [flat_single] at h2
  exact h2
end
end Sh
/- The program's head: a cut that may be entered. (The kernel reads a long head's text slowly: here its signs come by a lemma.) -/
set_option linter.unusedVariables false
set_option linter.unusedSimpArgs false
set_option maxRecDepth 100000
namespace Sh
open Go Go.Proofs
theorem enter_cut {P : Program} (h : (behindMainWord (wordsSigns P.initOrder.toList)).head? = some "cut".toList) (hd : P.doorFits [] = true) (hl : P.laysLater = false) (hr : P.bearsReflect = false) :
    P.mayEnter = true ∧ P.liftsFinal = false ∧ P.make = some .cut := by
  unfold Program.mayEnter Program.liftsFinal Program.make Program.headLifts
  generalize behindMainWord (wordsSigns P.initOrder.toList) = ws at h ⊢
  cases ws with
  | nil => cases h
  | cons c rest =>
    simp only [List.head?_cons, Option.some.injEq] at h
    subst h
    have e : stripLifts liftWords ("cut".toList :: rest) = ([], "cut".toList :: rest) := by
      simp only [liftWords, stripLifts]; rfl
    dsimp only
    simp only [e, hd, hl, hr]
    refine ⟨by rfl, by rfl, by rfl⟩
theorem headSigns : ∃ l : List Char, Try.prog.initOrder.toList = l ∧ (behindMainWord (wordsSigns l)).head? = some "cut".toList := ⟨_, String.toList_ofList, by kernel_rfl⟩
theorem enters : Try.prog.mayEnter = true ∧ Try.prog.liftsFinal = false ∧ Try.prog.make = some .cut := by
  obtain ⟨l, h1, h2⟩ := headSigns
  exact enter_cut (by rw [h1]; exact h2) (by kernel_rfl) (by kernel_rfl) (by kernel_rfl)
end Sh
/- The seat's tables: closed facts on its types, for the walk. -/
set_option linter.unusedVariables false
set_option linter.unusedSimpArgs false
namespace Sh
open Go Go.RowKit Go.Proofs
abbrev tU8 : TypeId := 5
abbrev tBytes : TypeId := 22
theorem infoU8 : (Try.prog.info? tU8).map (fun i => (i.zero, i.size, i.bytes)) = some (some (.int .u8 0), 1, 1) := by kernel_rfl
theorem undBytes : Try.prog.underlying tBytes = some (.slice tU8) := Try.underlying22
@[go_sem] theorem eqnilBytes (w : World) (a : Option Addr) (n c : Nat) : (binOp .eql 22 (.slice a n c) (.slice none 0 0)).run Try.prog w = .ok (.bool a.isNone) w := Lib.run_eql_slice_nil w tBytes tU8 a n c 0 0 undBytes
abbrev rowB (v : Value) (l : List UInt8) : Asrt := row tU8 1 v l.length (u8s l)

theorem wpList_appendB {w : World} {R : Snap} {L : Asrt} {v u : Value} {l k : List UInt8} {ops : Array Oper} {rest : List Oper} {o : Oper} {a : Act} {Q : Exit → Act → World → Prop} (hgd : o.guard = none) (s x : Operand)
    (ho : o.op = .call { callee := .builtin .append, args := #[s, x], argTypes := #[tBytes, tBytes] })
    (hs : a.eval s = v) (hx : a.eval x = u) (H : Holds w R (star (rowB v l) L)) (hr : RdB w.cell? u k) (hb : l.length + k.length ≤ 100000000)
    (hK : ∀ v' w', Holds w' R (star (rowB v' (l ++ k)) L) → wpList Try.prog ops Q rest (a.put o.dst v') w') : wpList Try.prog ops Q (o :: rest) a w :=
  wpList_append hgd s x ho undBytes infoU8 rfl (by decide) hs hx H hr (u8s_one k) (by simp only [maxLen]; omega) (by omega) fun v' w' H' => hK v' w' (by
    rw [← u8s_append, ← List.length_append] at H'; exact H')
theorem step_appendB {w : World} {R : Snap} {L : Asrt} {v u : Value} {l k : List UInt8} {ops : Array Oper} {o : Oper} {a : Act} {K : Act → World → Prop} {Q : Exit → Act → World → Prop} {E : Prop} (hgd : o.guard = none) (s x : Operand)
    (ho : o.op = .call { callee := .builtin .append, args := #[s, x], argTypes := #[tBytes, tBytes] })
    (hs : a.eval s = v) (hx : a.eval x = u) (H : Holds w R (star (rowB v l) L)) (hr : RdB w.cell? u k) (hb : l.length + k.length ≤ 100000000)
    (hK : ∀ v' w', Holds w' R (star (rowB v' (l ++ k)) L) → K (a.put o.dst v') w') : if Region.wanted o (yielded ops a.tmps) = true then Oper.wp Try.prog o a w K Q else E :=
  step_append hgd s x ho undBytes infoU8 rfl (by decide) hs hx H hr (u8s_one k) (by simp only [maxLen]; omega) (by omega) fun v' w' H' => hK v' w' (by
    rw [← u8s_append, ← List.length_append] at H'; exact H')

/-- 'make([]byte, n)'. -/
theorem wpList_makeB {w : World} {R : Snap} {L : Asrt} {n : Nat} {ops : Array Oper} {rest : List Oper} {o : Oper} {a : Act} {Q : Exit → Act → World → Prop} (hgd : o.guard = none) (l c : Operand)
    (ho : o.op = .makeSlice tBytes l c) (hl : a.eval l = .int .i64 n) (hc : a.eval c = .int .i64 n) (H : Holds w R L) (hn : n ≤ 100000000)
    (hK : ∀ v w', Holds w' R (star (rowB v (List.replicate n 0)) L) → wpList Try.prog ops Q rest (a.put o.dst v) w') : wpList Try.prog ops Q (o :: rest) a w := by
  obtain ⟨i, hi, hz, hs, hb⟩ := info_parts infoU8
  refine wpList_make_full (P := Try.prog) w hgd l c tBytes ho w.heap.size tU8 i _ 1 undBytes hi hz hs .i64 .i64 n n n hl hc rfl rfl (by rw [hb]; omega) (by simp only [maxLen]; omega) (Nat.le_refl _) ?_
  intro w' h1 h2
  refine hK _ w' ?_
  have h3 := H.ofGrown h1 h2 (Nat.le_refl _)
  have e : (madeCells (Value.int IntKind.u8 0).cells (n * 1)).toList = u8s (List.replicate n 0) := by
    simp only [madeCells, u8s, Value.cells, Nat.mul_one]
    rw [Array.toList_map]
    simp [Nat.mod_one]
    rw [List.map_const', List.length_range]
  rw [e] at h3
  have e2 : n = (List.replicate n (0 : UInt8)).length := by simp
  show Holds w' R (star (row tU8 1 _ (List.replicate n (0 : UInt8)).length _) L)
  rw [← e2]; exact h3
/-- 'make([]byte, 0, n)'. -/
theorem wpList_makeB0 {w : World} {R : Snap} {L : Asrt} {n : Nat} {ops : Array Oper} {rest : List Oper} {o : Oper} {a : Act} {Q : Exit → Act → World → Prop} (hgd : o.guard = none) (l c : Operand)
    (ho : o.op = .makeSlice tBytes l c) (hl : a.eval l = .int .i64 0) (hc : a.eval c = .int .i64 n) (H : Holds w R L) (hn : n ≤ 100000000)
    (hK : ∀ v w', Holds w' R (star (rowB v []) L) → wpList Try.prog ops Q rest (a.put o.dst v) w') : wpList Try.prog ops Q (o :: rest) a w := by
  obtain ⟨i, hi, hz, hs, hb⟩ := info_parts infoU8
  refine wpList_make_own (P := Try.prog) w hgd l c tBytes ho w.heap.size tU8 i _ 1 undBytes hi hz hs .i64 .i64 n n hl hc rfl (by rw [hb]; omega) (by simp only [maxLen]; omega) (Nat.le_refl _) ?_
  intro w' h1 h2
  exact hK _ w' (H.ofGrown h1 h2 (Nat.le_refl _))
/-- A row of bytes that one byte is written to. -/
theorem row_write {w : World} {R : Snap} {L : Asrt} {g n cap : Nat} {l : List UInt8} (H : Holds w R (star (row tU8 1 (.slice (some ⟨g, 0, none⟩) n cap) n (u8s l)) L)) (j : Nat) (z : Int) (hj : j < n) (hz : 0 ≤ z ∧ z ≤ 255) :
    Holds (w.setCell ⟨g, j, none⟩ (.int .u8 z)) R (star (row tU8 1 (.slice (some ⟨g, 0, none⟩) n cap) n (u8s (l.set j (UInt8.ofNat z.toNat)))) L) := by
  have h := H.rowSet j (.int .u8 z) (by omega)
  have e : (UInt8.ofNat z.toNat).toNat = z.toNat := by
    have : z.toNat < 256 := by omega
    simp [Nat.mod_eq_of_lt this]
  have e2 : (Value.int .u8 z) = .int .u8 ((UInt8.ofNat z.toNat).toNat : Int) := by rw [e, Int.toNat_of_nonneg hz.1]
  rw [e2, u8s_set] at h
  rw [e2]; exact h
/-- A new slice of bytes, empty. -/
theorem freshB {w : World} {R : Snap} {L : Asrt} (H : Holds w R L) : Holds (w.alloc (.cells #[] tU8)) R (star (rowB (.slice (some ⟨w.heap.size, 0, none⟩) 0 0) []) L) :=
  (H.alloc #[] tU8).toRow 1 0 0 (Nat.le_refl _) (Nat.zero_le _) rfl
/-- A block of bytes as a row. -/
theorem blkB {w : World} {R : Snap} {L : Asrt} {b n : Nat} {cs : Array Value} (H : Holds w R (star (blk b cs tU8) L)) (l : List UInt8) (h : cs.toList = u8s l) (hn : n = l.length) (hl : l.length ≤ 100000000) :
    Holds w R (star (rowB (.slice (some ⟨b, 0, none⟩) n n) l) L) := by
  have hs : cs.size = l.length := by rw [← Array.length_toList, h, u8s_length]
  subst hn
  have h1 := H.toRow 1 l.length l.length (Nat.le_refl _) (by simp only [maxLen]; omega) (by omega)
  rw [h, Nat.mul_one, List.take_of_length_le (by simp)] at h1
  exact h1
theorem blkRdB {w : World} {R : Snap} {L : Asrt} {b n : Nat} {cs : Array Value} (H : Holds w R (star (blk b cs tU8) L)) (l : List UInt8) (h : cs.toList = u8s l) (hn : n = l.length) (hl : l.length ≤ 100000000) :
    RdB w.cell? (.slice (some ⟨b, 0, none⟩) n n) l := (blkB H l h hn hl).rowRd

@[go_sem] theorem convConst (w : World) (C : Array Value) (n c : Nat) : (convert 22 22 (.slice (some ⟨w.heap.size, 0, none⟩) n c)).run Try.prog (w.alloc (.cells C 5)) = .ok (.slice (some ⟨w.heap.size, 0, none⟩) n c) (w.alloc (.cells C 5 (C.size, C.size + 1))) := Lib.run_convert_bytes_const w _ _ C n c undBytes Try.underlying5
/-- 'string(b)'. -/
theorem convStr {w : World} {v : Value} {l : List UInt8} (h : RdB w.cell? v l) : (convert 22 9 v).run Try.prog w = .ok (.string ⟨l.toArray⟩) w := by
  obtain ⟨a, c, rfl⟩ := h.form
  by_cases hn : 0 < l.length
  · obtain ⟨b, o, rfl, hc⟩ := RdB.open h hn
    rw [run_convert_bytes_arg w 22 5 undBytes Try.underlying5 b o l.length c (l.map fun x => (x.toNat : Int)) (by simp) (fun i hi => by rw [hc i hi]; simp [List.getD, hi]) 9 Try.underlying9]
    have e : (List.map (fun n : Int => UInt8.ofNat n.toNat) (l.map fun x => (x.toNat : Int))) = l := by
      rw [List.map_map]
      conv => rhs; rw [← List.map_id l]
      apply List.map_congr_left
      intro x _
      simp
    rw [strOfNums, e]
  · obtain rfl : l = [] := List.eq_nil_of_length_eq_zero (by omega)
    cases a with
    | none => rw [run_convert_bytes_nil w 22 5 undBytes Try.underlying5 _ c 9 Try.underlying9]; rfl
    | some ad =>
      rw [run_convert_bytes_string w 22 9 5 _ _ c undBytes Try.underlying5 Try.underlying9, run_bytesToString w _ _ c [] (by simp [loadCells, loadCellsFrom])]
      rfl
/-- slices.Clone of bytes. -/
theorem clone_spec {w : World} {R : Snap} {L : Asrt} {v : Value} {l : List UInt8} (H : Holds w R L) (hr : RdB w.cell? v l) (hn : l.length ≤ 1000000) :
    Calls Try.prog 108 #[v] w fun e w' => ∃ v', e = .returned v' ∧ Holds w' R (star (rowB v' l) L) := by
  obtain ⟨a, cap, rfl⟩ := hr.form
  cases a with
  | none =>
    obtain ⟨a', cap', e1, r1, r2, r3, r4, r5⟩ := id hr
    simp only [Value.slice.injEq, true_and] at e1
    obtain ⟨rfl, rfl⟩ := e1
    obtain rfl := r4 rfl
    obtain rfl : l = [] := List.eq_nil_of_length_eq_zero (by omega)
    clear r1 r2 r3 r4 r5 hr
    go_enter Try.func108, Try.ntmps108
    go_wp2_with fail
    go_ret
    exact ⟨_, rfl, H.nilRow _ 1⟩
  | some ad =>
    go_enter Try.func108, Try.ntmps108
    go_wp2_with (with_reducible refine stop_append ?_)
    have H1 : Holds _ R (star (rowB _ []) L) := (H.alloc #[] tU8).toRow 1 0 0 (Nat.le_refl _) (Nat.zero_le _) rfl
    have hr1 := hr.below ((Below.refl _ _).alloc (Nat.le_refl _) (.cells #[] tU8))
    refine Hold.go (wpList_appendB rfl _ _ rfl rfl rfl H1 hr1 (by simp; omega) ?_)
    intro v' w' H2
    go_wp2_with fail
    go_ret
    exact ⟨_, rfl, H2⟩

theorem take_snoc_eq {l k : List UInt8} {j : Nat} (hl : j < l.length) (hk : j < k.length) (h : l.take j = k.take j) (e : l[j] = k[j]) : l.take (j + 1) = k.take (j + 1) := by
  rw [List.take_succ_eq_append_getElem hl, List.take_succ_eq_append_getElem hk, h, e]

/-- sherdref01.Same. -/
theorem same_spec {w : World} {u v : Value} {l k : List UInt8} (hu : RdB w.cell? u l) (hv : RdB w.cell? v k) (hl : l.length ≤ 1000000) (hk : k.length ≤ 1000000) :
    Calls Try.prog 27 #[u, v] w fun e w' => e = .returned (.bool (decide (l = k))) ∧ ∃ q, w' = w.drewN q := by
  obtain ⟨a, ca, rfl⟩ := hu.form
  obtain ⟨b, cb, rfl⟩ := hv.form
  by_cases hlen : l.length = k.length
  · have HL : Hid (l.length = k.length) := hlen
    obtain ⟨n, hn⟩ : ∃ n, n = k.length := ⟨_, rfl⟩
    have HN : Hid (n = k.length) := hn
    have hcell : ∀ (q j : Nat) (h : j < n), ∃ x y : UInt8, ∃ b1 o1 b2 o2, a = some ⟨b1, o1, none⟩ ∧ b = some ⟨b2, o2, none⟩ ∧ w.cell? ⟨b1, o1 + j, none⟩ = some (.int .u8 x.toNat) ∧ w.cell? ⟨b2, o2 + j, none⟩ = some (.int .u8 y.toNat) ∧ Hid (l[j]? = some x ∧ k[j]? = some y) := by
      intro q j hj
      obtain ⟨b1, o1, rfl, h1⟩ := hu.open (by omega)
      obtain ⟨b2, o2, rfl, h2⟩ := hv.open (by omega)
      exact ⟨l[j], k[j], b1, o1, b2, o2, rfl, rfl, h1 j (by omega), h2 j (by omega), by simp, by simp⟩
    rw [hlen, ← hn]
    clear hlen hn hu hv
    have hn9 : n ≤ 1000000 := HN.out ▸ hk
    go_enter Try.func27, Try.ntmps27
    go_wp2_with fail
    go_loopw [5] (fun i wr => ∃ j : Nat, i = .int .i64 j ∧ j ≤ n ∧ Hid (l.take j = k.take j) ∧ ∃ q, wr = w.drewN q) (fun i _ => n - (intOf i).toNat)
    case atStart => exact ⟨0, rfl, Nat.zero_le _, rfl, 0, rfl⟩
    case round =>
      obtain ⟨j, rfl, hj, ht, q, rfl⟩ := hrel
      by_cases hlt : j < n
      · obtain ⟨x, y, b1, o1, b2, o2, rfl, rfl, c1, c2, hxy⟩ := hcell q j hlt
        go_wp2_with fail
        go_quiet (fail)
        go_wp2_with fail
        · rename_i hne
          go_ret
          refine ⟨ret_bool ?_, drewN2 _ _ _⟩
          symm; rw [decide_eq_false_iff_not]
          rintro rfl
          have := hxy.out.1.symm.trans hxy.out.2
          simp only [Option.some.injEq] at this
          subst this; simp at hne
        · rename_i he
          go_roundw
          case rel =>
            refine ⟨j + 1, by go_num, hlt, ?_, _, rfl⟩
            have e : x = y := u8_toNat_inj.1 (by simpa using he)
            obtain ⟨h1, h2⟩ := hxy.out
            have g1 := (List.getElem?_eq_some_iff.1 h1)
            have g2 := (List.getElem?_eq_some_iff.1 h2)
            exact take_snoc_eq g1.1 g2.1 ht.out (by rw [g1.2, g2.2, e])
          case measure => simp [intOf]; omega
      · go_wp2_with fail
        go_ret
        refine ⟨ret_bool ?_, _, rfl⟩
        symm; rw [decide_eq_true_eq]
        have h1 := ht.out
        have h2 := HL.out
        have h3 := HN.out
        rwa [List.take_of_length_le (by omega), List.take_of_length_le (by omega)] at h1
  · have h1 : ((l.length : Int) != (k.length : Int)) = true := by simp; omega
    go_enter Try.func27, Try.ntmps27
    go_wp2_with fail
    go_ret
    exact ⟨ret_bool (by symm; rw [decide_eq_false_iff_not]; rintro rfl; exact hlen rfl), 0, rfl⟩
end Sh
/- More words of the heap: many rows of bytes, copy. -/
set_option linter.unusedVariables false
set_option linter.unusedSimpArgs false
namespace Sh
open Go Go.RowKit Go.Proofs
attribute [local go_sem ↓] Go.wp_at_zero Go.wp_at_succ
set_option maxHeartbeats 1000000
set_option maxRecDepth 100000

theorem Asrt.same : ∀ {A B : Asrt}, A.on = B.on → A = B
  | ⟨_, _, _⟩, ⟨_, _, _⟩, rfl => rfl
theorem emp_star (A : Asrt) : star emp A = A := by
  apply Asrt.same
  funext h F
  apply propext
  constructor
  · rintro ⟨F1, F2, h1, h2, _, e⟩
    have : F = F2 := funext fun i => propext ⟨fun hi => ((e i).1 hi).elim (fun x => absurd x (h1 i)) id, fun hi => (e i).2 (.inr hi)⟩
    rw [this]; exact h2
  · intro ha
    exact ⟨fun _ => False, F, fun _ h => h, ha, fun _ h => h.elim, fun i => ⟨.inr, fun h => h.elim (fun h => h.elim) id⟩⟩
theorem star_emp (A : Asrt) : star A emp = A := by rw [star_comm, emp_star]
/-- Many rows of bytes that are owned. -/
def bytesAll : List (Value × List UInt8) → Asrt
  | [] => emp
  | q :: l => star (rowB q.1 q.2) (bytesAll l)
theorem bytesAll_append (l k : List (Value × List UInt8)) : bytesAll (l ++ k) = star (bytesAll l) (bytesAll k) := by
  induction l with
  | nil => show bytesAll k = star emp (bytesAll k); exact (emp_star _).symm
  | cons q l ih => show star _ (bytesAll (l ++ k)) = star (star _ (bytesAll l)) (bytesAll k); rw [ih]; ac_rfl
theorem bytesAll_one (v : Value) (l : List UInt8) : bytesAll [(v, l)] = rowB v l := star_emp _
theorem bytesAll_at {l : List (Value × List UInt8)} {i : Nat} (h : i < l.length) : bytesAll l = star (rowB l[i].1 l[i].2) (star (bytesAll (l.take i)) (bytesAll (l.drop (i + 1)))) := by
  have e : l = l.take i ++ l[i] :: l.drop (i + 1) := by rw [← List.drop_eq_getElem_cons h, List.take_append_drop]
  conv => lhs; rw [e]
  rw [bytesAll_append]
  show star (bytesAll (l.take i)) (star (rowB l[i].1 l[i].2) (bytesAll (l.drop (i + 1)))) = _
  ac_rfl
theorem bytesAll_set {l : List (Value × List UInt8)} {i : Nat} {v : Value} {b : List UInt8} (h : i < l.length) : bytesAll (l.set i (v, b)) = star (rowB v b) (star (bytesAll (l.take i)) (bytesAll (l.drop (i + 1)))) := by
  have h2 : i < (l.set i (v, b)).length := by simpa using h
  have e1 : (l.set i (v, b)).take i = l.take i := by rw [List.take_set, List.set_eq_of_length_le (by simp; omega)]
  have e2 : (l.set i (v, b)).drop (i + 1) = l.drop (i + 1) := by rw [List.drop_set, if_pos (by omega)]
  rw [bytesAll_at h2, e1, e2]
  simp

theorem RdB.at_len {c : Addr → Option Value} {a : Option Addr} {l : List UInt8} {n cap : Nat} (h : RdB c (.slice a l.length cap) l) (e : l.length = n) : RdB c (.slice a n cap) l := by subst e; exact h
theorem Holds.at_len {w : World} {R : Snap} {L : Asrt} {a : Option Addr} {l : List UInt8} {n cap : Nat} (h : Holds w R (star (rowB (.slice a l.length cap) l) L)) (e : l.length = n) : Holds w R (star (rowB (.slice a n cap) l) L) := by subst e; exact h
theorem Holds.toRowB {w : World} {R : Snap} {L : Asrt} {v : Value} {l : List UInt8} {n : Nat} (h : Holds w R (star (row tU8 1 v n (u8s l)) L)) (e : l.length = n) : Holds w R (star (rowB v l) L) := by subst e; exact h
theorem same_self {w : World} {u v : Value} {l : List UInt8} (hu : RdB w.cell? u l) (hv : RdB w.cell? v l) (hl : l.length ≤ 1000000) :
    Calls Try.prog 27 #[u, v] w fun e w' => e = .returned (.bool true) ∧ ∃ q, w' = w.drewN q := by
  refine (same_spec hu hv hl hl).mono ?_
  rintro e w' ⟨rfl, h⟩
  exact ⟨by simp, h⟩
/-- Two owned blocks are apart. -/
theorem Holds.apart {w : World} {R : Snap} {L : Asrt} {b b' : Nat} {cs cs' : Array Value} {t t' : TypeId} (H : Holds w R (star (Sh.blk b cs t) (star (Sh.blk b' cs' t') L))) : b ≠ b' ∧ b' ≠ b := by
  obtain ⟨h1, h2, h3, h4, F, ⟨F1, F2, ⟨_, ha⟩, ⟨F3, F4, ⟨_, hb⟩, hl, hd', he'⟩, hd, he⟩, hR⟩ := H
  have h := hd b ((ha b).2 rfl)
  have : b ≠ b' := fun e => h ((he' b).2 (.inl ((hb b).2 e)))
  exact ⟨this, this.symm⟩
/-- Two results, the first a struct in memory. -/
theorem results_cell2 {P : Program} {fn : Func} {p q : Tmp} {ty : TypeId} (h : fn.results = #[.cell p ty, .tmp q]) (tmps : Array Value) (w : World) (g : Nat) (t : TypeId) (cs : Array Value) (fr : Nat × Nat) (d : TypeDesc)
    (hp : tmps.getD p undef = .pointer (some ⟨g, 0, none⟩)) (hg : w.heap[g]? = some (.cells cs t fr))
    (hu : P.underlying ty = some d) (hd : (match d with | .struct _ | .array _ _ => true | _ => false) = true) (hi : (P.info? ty).map (·.size) = some cs.size) :
    (results fn tmps).run P w = .ok (.tuple #[.agg cs, tmps.getD q undef]) w := by
  have hp' : tmps[p]?.getD undef = .pointer (some ⟨g, 0, none⟩) := by simpa using hp
  simp [results, h, hp', asAddr, run_loadVar_row w g t ty cs fr d hg hu hd hi]
theorem results_cell3 {P : Program} {fn : Func} {p q r : Tmp} {ty : TypeId} (h : fn.results = #[.cell p ty, .tmp q, .tmp r]) (tmps : Array Value) (w : World) (g : Nat) (t : TypeId) (cs : Array Value) (fr : Nat × Nat) (d : TypeDesc)
    (hp : tmps.getD p undef = .pointer (some ⟨g, 0, none⟩)) (hg : w.heap[g]? = some (.cells cs t fr))
    (hu : P.underlying ty = some d) (hd : (match d with | .struct _ | .array _ _ => true | _ => false) = true) (hi : (P.info? ty).map (·.size) = some cs.size) :
    (results fn tmps).run P w = .ok (.tuple #[.agg cs, tmps.getD q undef, tmps.getD r undef]) w := by
  have hp' : tmps[p]?.getD undef = .pointer (some ⟨g, 0, none⟩) := by simpa using hp
  simp [results, h, hp', asAddr, run_loadVar_row w g t ty cs fr d hg hu hd hi]
/-- A row's cells are laid anew. -/
theorem Holds.rowAll {w : World} {R : Snap} {L : Asrt} {t : TypeId} {size n cap g : Nat} {xs : List Value} (H : Holds w R (star (row t size (.slice (some ⟨g, 0, none⟩) n cap) n xs) L)) :
    ∃ cur, w.heap[g]? = some (.cells cur t (0, 0)) ∧ cur.size = cap * size ∧ n ≤ cap ∧ cur.toList.take (n * size) = xs ∧
      ∀ cur2 : Array Value, cur2.size = cur.size → Holds (w.setRow g cur2) R (star (row t size (.slice (some ⟨g, 0, none⟩) n cap) n (cur2.toList.take (n * size))) L) := by
  obtain ⟨F, hF, k⟩ := H.upd
  obtain ⟨hl, c⟩ := hF
  rcases c with ⟨h, _⟩ | ⟨g', cap', cur, e1, e2, r1, r2, r3, r4, e⟩
  · cases h
  · simp only [Value.slice.injEq, Option.some.injEq, Addr.mk.injEq, true_and] at e1
    obtain ⟨⟨rfl, _⟩, rfl⟩ := e1
    have e2' : w.heap[g]? = some (.cells cur t (0, 0)) := e2
    refine ⟨cur, e2', r3, r1, r4, fun cur2 h2 => ?_⟩
    have hle : n * size ≤ cap * size := Nat.mul_le_mul_right _ r1
    refine k _ _ F ⟨by simp; omega, .inr ⟨g, cap, cur2, rfl, ?_, r1, r2, by omega, rfl, e⟩⟩ rfl rfl rfl (fun i hi hn => setRow_other w g i cur2 (fun h => hn ((e i).2 h))) (fun i hi => .inl hi)
    exact setRow_heap w g cur cur2 t _ e2'

theorem sizeU8 : (Try.prog.info? tU8).map (·.size) = some 1 := by
  obtain ⟨i, hi, _, hs, _⟩ := info_parts infoU8
  rw [hi, ← hs]; rfl
/-- 'copy(d, s)' of bytes into an owned row. -/
theorem wpList_copyB {w : World} {R : Snap} {L : Asrt} {v u : Value} {l k : List UInt8} {ops : Array Oper} {rest : List Oper} {o : Oper} {a : Act} {Q : Exit → Act → World → Prop} (hgd : o.guard = none) (d s : Operand)
    (ho : o.op = .call { callee := .builtin .copy, args := #[d, s], argTypes := #[tBytes, tBytes] })
    (hd : a.eval d = v) (hs : a.eval s = u) (H : Holds w R (star (rowB v l) L)) (hr : RdB w.cell? u k)
    (hK : ∀ w', Holds w' R (star (rowB v (k.take l.length ++ l.drop k.length)) L) → wpList Try.prog ops Q rest (a.put o.dst (.int .i64 (min k.length l.length : Nat))) w') : wpList Try.prog ops Q (o :: rest) a w := by
  obtain ⟨au, cu, rfl⟩ := hr.form
  by_cases h0 : min k.length l.length = 0
  · obtain ⟨av, cv, rfl⟩ := H.rowRd.form
    refine wpList_copy_nothing (P := Try.prog) hgd d s tBytes tBytes ho tU8 undBytes sizeU8 _ _ _ _ _ _ hd hs h0 ?_
    have e : k.take l.length ++ l.drop k.length = l := by
      by_cases hk : k.length = 0
      · rw [List.eq_nil_of_length_eq_zero hk]; simp
      · have hl : l.length = 0 := by omega
        rw [List.eq_nil_of_length_eq_zero hl]; simp
    have := hK w (by rw [e]; exact H)
    rw [h0] at this
    exact this
  · obtain ⟨g, cap, rfl, _⟩ := H.rowAt (by omega)
    obtain ⟨b, o2, rfl, hc⟩ := RdB.open hr (by omega)
    obtain ⟨cur, hg, hcur, hcap, htk, hset⟩ := H.rowAll
    rw [Nat.mul_one] at hcur htk
    refine wpList_copy_own (P := Try.prog) hgd d s tBytes tBytes ho tU8 undBytes sizeU8 g 0 _ cap ⟨b, o2, none⟩ _ cu hd hs cur tU8 hg (u8s (k.take l.length)) (by rw [u8s_length, List.length_take]; exact Nat.min_comm _ _) ?_ ?_ (u8s_one _) ?_
    · intro j x hx
      rw [add_plain]
      have hj : j < (k.take l.length).length := by
        have := (List.getElem?_eq_some_iff.1 hx).1
        rwa [u8s_length] at this
      rw [u8s_get _ _ hj, Option.some.injEq] at hx
      subst hx
      have hj2 : j < k.length := by rw [List.length_take] at hj; omega
      rw [hc j hj2]
      simp
    · rw [u8s_length, List.length_take]; omega
    · have H2 := hset (cur.toList.take 0 ++ (u8s (k.take l.length) ++ cur.toList.drop (0 + (u8s (k.take l.length)).length))).toArray (by
        simp; omega)
      have e : (cur.toList.take 0 ++ (u8s (k.take l.length) ++ cur.toList.drop (0 + (u8s (k.take l.length)).length))).take (l.length * 1) = u8s (k.take l.length ++ l.drop k.length) := by
        rw [List.take_zero, List.nil_append, u8s_append, Nat.zero_add, Nat.mul_one, List.take_append, u8s_length, List.length_take]
        congr 1
        · rw [List.take_of_length_le (by rw [u8s_length, List.length_take]; omega)]
        · rw [← u8s_drop, ← htk, ← List.drop_take]
          by_cases hk : k.length ≤ l.length
          · rw [show min l.length k.length = k.length from by omega]
          · rw [List.drop_of_length_le (by rw [List.length_take]; omega), List.drop_of_length_le (by rw [List.length_take]; omega)]
      rw [e] at H2
      have e3 : (k.take l.length ++ l.drop k.length).length = l.length := by simp; omega
      have h4 := hK _ (by
        show Holds _ R (star (row tU8 1 _ (k.take l.length ++ l.drop k.length).length _) L)
        rw [e3]; exact H2)
      have e4 : (u8s (k.take l.length)).length = min k.length l.length := by rw [u8s_length, List.length_take]; exact Nat.min_comm _ _
      show wpList _ _ _ _ (a.put o.dst (goInt ((u8s (k.take l.length)).length : Nat))) _
      rw [e4] at h4 ⊢
      exact h4
end Sh
/- Sectors: a slice of slices that is read. -/
set_option linter.unusedVariables false
set_option linter.unusedSimpArgs false
namespace Sh
open Go Go.RowKit Go.Proofs
attribute [local go_sem ↓] Go.wp_at_zero Go.wp_at_succ
set_option maxHeartbeats 1000000
set_option maxRecDepth 100000

def RdBB (c : Addr → Option Value) (v : Value) (ss : List (Value × List UInt8)) : Prop := Rd c 1 v ss.length (ss.map Prod.fst) ∧ ∀ q ∈ ss, RdB c q.1 q.2
theorem RdBB.le {R R' : Snap} {v : Value} {ss : List (Value × List UInt8)} (h : RdBB R.cell? v ss) (l : R.le R') : RdBB R'.cell? v ss := ⟨Rd.le h.1 l, fun q hq => Rd.le (h.2 q hq) l⟩
theorem RdBB.world {w : World} {R : Snap} {L : Asrt} {v : Value} {ss : List (Value × List UInt8)} (h : RdBB R.cell? v ss) (H : Holds w R L) : RdBB w.cell? v ss := ⟨Rd.world h.1 H, fun q hq => Rd.world (h.2 q hq) H⟩
theorem RdBB.form {c : Addr → Option Value} {v : Value} {ss : List (Value × List UInt8)} (h : RdBB c v ss) : ∃ a cap, v = .slice a ss.length cap := Rd.form h.1
theorem RdBB.at {c : Addr → Option Value} {a : Option Addr} {cap : Nat} {ss : List (Value × List UInt8)} (h : RdBB c (.slice a ss.length cap) ss) {j : Nat} (hj : j < ss.length) :
    ∃ b o, a = some ⟨b, o, none⟩ ∧ c ⟨b, o + j, none⟩ = some ss[j].1 ∧ RdB c ss[j].1 ss[j].2 := by
  obtain ⟨h1, h2⟩ := h
  obtain ⟨b, o, h3, h4⟩ := Rd.open h1 (by omega)
  exact ⟨b, o, h3, h4 j _ (by rw [List.getElem?_map, List.getElem?_eq_getElem hj]; rfl), h2 _ (List.getElem_mem hj)⟩
theorem RdBB.sub {c : Addr → Option Value} {a : Option Addr} {cap : Nat} {ss : List (Value × List UInt8)} (h : RdBB c (.slice a ss.length cap) ss) (lo hi cap' : Nat) (h1 : lo ≤ hi) (h2 : hi ≤ ss.length) (h3 : hi ≤ cap') (h4 : cap' ≤ cap) :
    RdBB c (.slice (adr a cap' lo 1) (hi - lo) (cap' - lo)) ((ss.drop lo).take (hi - lo)) := by
  have e : ((ss.drop lo).take (hi - lo)).length = hi - lo := by rw [List.length_take, List.length_drop]; omega
  refine ⟨?_, fun q hq => h.2 q (List.mem_of_mem_drop (List.mem_of_mem_take hq))⟩
  rw [e, List.map_take, List.map_drop]
  have := Rd.sub h.1 lo hi cap' h1 h2 h3 h4
  rwa [Nat.mul_one, Nat.mul_one] at this
theorem RdBB.bounds {c : Addr → Option Value} {a : Option Addr} {cap : Nat} {ss : List (Value × List UInt8)} (h : RdBB c (.slice a ss.length cap) ss) : ss.length ≤ cap ∧ cap ≤ maxLen := ⟨(Rd.bounds h.1).1, (Rd.bounds h.1).2.1⟩
theorem freezeAll {w : World} : ∀ (q : List (Value × List UInt8)) {R : Snap} {L : Asrt}, Holds w R (star (bytesAll q) L) → ∃ R', R.le R' ∧ Holds w R' L ∧ ∀ x ∈ q, RdB R'.cell? x.1 x.2
  | [], R, L, H => ⟨R, Snap.le.refl _, H.ac (emp_star L), fun _ h => by cases h⟩
  | x :: q, R, L, H => by
    have H1 : Holds w R (star (rowB x.1 x.2) (star (bytesAll q) L)) := H.unstar
    obtain ⟨R1, le1, H2, h1⟩ := H1.freezeRow
    obtain ⟨R2, le2, H3, h2⟩ := freezeAll q H2
    refine ⟨R2, le1.trans le2, H3, fun y hy => ?_⟩
    rcases List.mem_cons.1 hy with rfl | hy
    · exact Rd.le h1 le2
    · exact h2 y hy
theorem freezeBB {w : World} {R : Snap} {L : Asrt} {o : Value} {q : List (Value × List UInt8)} (H : Holds w R (star (row tBytes 1 o q.length (q.map Prod.fst)) (star (bytesAll q) L))) : ∃ R', R.le R' ∧ Holds w R' L ∧ RdBB R'.cell? o q := by
  obtain ⟨R1, le1, H1, h1⟩ := H.freezeRow
  obtain ⟨R2, le2, H2, h2⟩ := freezeAll q H1
  exact ⟨R2, le1.trans le2, H2, Rd.le h1 le2, h2⟩
end Sh
/- Rows of structs: copy, and a store of an element. -/
set_option linter.unusedVariables false
set_option linter.unusedSimpArgs false
namespace Sh
open Go Go.RowKit Go.Proofs
attribute [local go_sem ↓] Go.wp_at_zero Go.wp_at_succ
set_option maxHeartbeats 1000000
set_option maxRecDepth 100000

section
variable {P : Program}
theorem run_copy_rowS (w : World) (dT sT ty elem : TypeId) (g o dLen dCap : Nat) (a : Addr) (sLen sCap size : Nat) (cur : Array Value) (t : TypeId) (cs : List Value)
    (hu : P.underlying dT = some (.slice elem)) (hs : (P.info? elem).map (·.size) = some size)
    (hg : w.heap[g]? = some (.cells cur t (0, 0))) (hn : cs.length = Nat.min sLen dLen * size)
    (hsrc : ∀ j v, cs[j]? = some v → w.cell? (a.add j) = some v) (hfit : o + cs.length ≤ cur.size) (h1 : ∀ v ∈ cs, v.oneCell' = true) :
    (Builtin.copy_ #[dT, sT] ty #[.slice (some ⟨g, o, none⟩) dLen dCap, .slice (some a) sLen sCap]).run P w =
      .ok (goInt (Nat.min sLen dLen)) (w.setRow g (cur.toList.take o ++ cs ++ cur.toList.drop (o + cs.length)).toArray) := by
  have hl := run_loadCells_list (P := P) w a cs hsrc
  have hst := run_storeCells_at P g o t cs 0 cur w hg (by simpa using hfit) h1
  cases hq : P.info? elem with
  | none => simp [hq] at hs
  | some i =>
    have hi : i.size = size := by simpa [hq] using hs
    simp [Builtin.copy_, run_underlying hu, Builtin.lenOf, Builtin.firstCells, Go.sizeOf, typeInfo, hq, hi, ← hn, hl, hst]
theorem run_copy_noneS (w : World) (dT sT ty elem : TypeId) (d a : Option Addr) (dLen dCap sLen sCap size : Nat) (hu : P.underlying dT = some (.slice elem)) (hs : (P.info? elem).map (·.size) = some size) (hn : Nat.min sLen dLen = 0) :
    (Builtin.copy_ #[dT, sT] ty #[.slice d dLen dCap, .slice a sLen sCap]).run P w = .ok (goInt 0) w := by
  cases hq : P.info? elem with
  | none => simp [hq] at hs
  | some i =>
    have hl : ∀ (x : Addr), (loadCells x 0).run P w = .ok #[] w := fun x => by simpa using run_loadCells_list (P := P) w x [] (by simp)
    cases d <;> cases a <;> simp [Builtin.copy_, run_underlying hu, Builtin.lenOf, Builtin.firstCells, Go.sizeOf, typeInfo, hq, hn, storeCells, hl]
theorem splice_take {α : Type} {c y : List α} {A B N : Nat} (hy : y.length = B) (h1 : A + B ≤ N) (h2 : N ≤ c.length) : (c.take A ++ (y ++ c.drop (A + B))).take N = (c.take N).take A ++ (y ++ (c.take N).drop (A + B)) := by
  have hl : (c.take A).length = A := by simp; omega
  have e1 : (c.take A).take N = c.take A := List.take_of_length_le (by omega)
  have e2 : y.take (N - A) = y := List.take_of_length_le (by omega)
  have e3 : (c.take N).take A = c.take A := by rw [List.take_take, Nat.min_eq_left (by omega)]
  rw [List.take_append, hl, List.take_append, hy, e1, e2, e3, List.drop_take, show N - A - B = N - (A + B) by omega]
theorem wp_copyS {w : World} {R : Snap} {L : Asrt} {o : Oper} {a : Act} {K : Act → World → Prop} {Q : Exit → Act → World → Prop} (d s : Operand) (dT sT elem : TypeId)
    (ho : o.op = .call { callee := .builtin .copy, args := #[d, s], argTypes := #[dT, sT] }) (hu : P.underlying dT = some (.slice elem)) {size : Nat} (hsz : (P.info? elem).map (·.size) = some size)
    {g n cap off dLen dCap m sCap : Nat} {dp sp : Option Addr} {xs ys : List Value} (H : Holds w R (star (row elem size (.slice (some ⟨g, 0, none⟩) n cap) n xs) L))
    (hd : a.eval d = .slice dp dLen dCap) (hs : a.eval s = .slice sp m sCap) (hoff : off + dLen = n) (hdp : 0 < dLen → dp = some ⟨g, off * size, none⟩) (hpos : 0 < size)
    (hr : Rd w.cell? size (.slice sp m sCap) m ys) (hone : ∀ y ∈ ys, y.oneCell' = true)
    (hK : ∀ w', Holds w' R (star (row elem size (.slice (some ⟨g, 0, none⟩) n cap) n (xs.take (off * size) ++ (ys.take (min m dLen * size) ++ xs.drop ((off + min m dLen) * size)))) L) → K (a.put o.dst (.int .i64 (min m dLen : Nat))) w') : o.wp P a w K Q := by
  have hyl := hr.len
  by_cases h0 : min m dLen = 0
  · have hrun := run_copy_noneS (P := P) w dT sT o.type elem dp sp dLen dCap m sCap size hu hsz h0
    have h1 := hK w (by rw [h0, Nat.zero_mul, List.take_zero, List.nil_append, Nat.add_zero, List.take_append_drop]; exact H)
    rw [h0] at h1
    unfold Oper.wp
    simp [execOp, ho, resolve, invoke, builtin, hd, hs, hrun, Result.andThen]
    exact h1
  · obtain ⟨cur, hg, hcur, hcap, htk, hset⟩ := H.rowAll
    obtain rfl := hdp (by omega)
    have hm0 : 0 < m * size := Nat.mul_pos (by omega) hpos
    obtain ⟨b1, o1, rfl, hc⟩ := hr.open hm0
    have hk1 : min m dLen * size ≤ m * size := Nat.mul_le_mul_right _ (by omega)
    have hcl : (ys.take (min m dLen * size)).length = min m dLen * size := by rw [List.length_take]; omega
    have hfit : (off + min m dLen) * size ≤ cap * size := Nat.mul_le_mul_right _ (by omega)
    rw [Nat.add_mul] at hfit
    have hrun := run_copy_rowS (P := P) w dT sT o.type elem g (off * size) dLen dCap ⟨b1, o1, none⟩ m sCap size cur elem (ys.take (min m dLen * size)) hu hsz hg hcl (fun j v hv => by
      rw [add_plain]
      rw [List.getElem?_take] at hv
      split at hv
      · exact hc j v hv
      · cases hv) (by rw [hcl]; omega) (fun v hv => hone v (List.mem_of_mem_take hv))
    have h2 := hset (cur.toList.take (off * size) ++ ys.take (min m dLen * size) ++ cur.toList.drop (off * size + (ys.take (min m dLen * size)).length)).toArray (by simp; omega)
    have e : ((cur.toList.take (off * size) ++ ys.take (min m dLen * size) ++ cur.toList.drop (off * size + (ys.take (min m dLen * size)).length)).toArray.toList.take (n * size)) = xs.take (off * size) ++ (ys.take (min m dLen * size) ++ xs.drop ((off + min m dLen) * size)) := by
      rw [List.append_assoc, hcl]
      have hn : (off + min m dLen) * size ≤ n * size := Nat.mul_le_mul_right _ (by omega)
      have hnc : n * size ≤ cap * size := Nat.mul_le_mul_right _ hcap
      rw [Nat.add_mul] at hn ⊢
      have h := splice_take (c := cur.toList) (y := ys.take (min m dLen * size)) (A := off * size) (B := min m dLen * size) (N := n * size) hcl hn (by simp; omega)
      rw [htk] at h
      exact h
    rw [e] at h2
    have h3 := hK _ h2
    unfold Oper.wp
    simp only [execOp, ho, resolve, invoke, builtin, Sem.run_bind, Sem.run_pure, Result.andThen_ok, List.map_toArray, List.map_cons, List.map_nil, hd, hs, hrun]
    exact h3
theorem step_copyS {w : World} {R : Snap} {L : Asrt} {ops : Array Oper} {o : Oper} {a : Act} {K : Act → World → Prop} {Q : Exit → Act → World → Prop} {E : Prop} (hgd : o.guard = none) (d s : Operand) (dT sT elem : TypeId)
    (ho : o.op = .call { callee := .builtin .copy, args := #[d, s], argTypes := #[dT, sT] }) (hu : P.underlying dT = some (.slice elem)) {size : Nat} (hsz : (P.info? elem).map (·.size) = some size)
    {g n cap off dLen dCap m sCap : Nat} {dp sp : Option Addr} {xs ys : List Value} (H : Holds w R (star (row elem size (.slice (some ⟨g, 0, none⟩) n cap) n xs) L))
    (hd : a.eval d = .slice dp dLen dCap) (hs : a.eval s = .slice sp m sCap) (hoff : off + dLen = n) (hdp : 0 < dLen → dp = some ⟨g, off * size, none⟩) (hpos : 0 < size)
    (hr : Rd w.cell? size (.slice sp m sCap) m ys) (hone : ∀ y ∈ ys, y.oneCell' = true)
    (hK : ∀ w', Holds w' R (star (row elem size (.slice (some ⟨g, 0, none⟩) n cap) n (xs.take (off * size) ++ (ys.take (min m dLen * size) ++ xs.drop ((off + min m dLen) * size)))) L) → K (a.put o.dst (.int .i64 (min m dLen : Nat))) w') : if Region.wanted o (yielded ops a.tmps) = true then Oper.wp P o a w K Q else E := by
  rw [if_pos (by simp [Region.wanted, hgd])]
  exact wp_copyS d s dT sT elem ho hu hsz H hd hs hoff hdp hpos hr hone hK
end

theorem flat_take {α : Type} (f : α → List Value) (k : Nat) (hk : ∀ x, (f x).length = k) : ∀ (l : List α) (n : Nat), (l.flatMap f).take (n * k) = (l.take n).flatMap f
  | [], n => by simp
  | x :: l, 0 => by simp
  | x :: l, n + 1 => by
    rw [List.flatMap_cons, List.take_append, List.take_of_length_le (by rw [hk, Nat.succ_mul]; omega), hk, show (n + 1) * k - k = n * k by rw [Nat.succ_mul]; omega, flat_take f k hk l n]; rfl
theorem flat_drop {α : Type} (f : α → List Value) (k : Nat) (hk : ∀ x, (f x).length = k) : ∀ (l : List α) (n : Nat), (l.flatMap f).drop (n * k) = (l.drop n).flatMap f
  | [], n => by simp
  | x :: l, 0 => by simp
  | x :: l, n + 1 => by
    rw [List.flatMap_cons, List.drop_append, List.drop_of_length_le (by rw [hk, Nat.succ_mul]; omega), hk, List.nil_append, show (n + 1) * k - k = n * k by rw [Nat.succ_mul]; omega, flat_drop f k hk l n]; rfl
/-- A store of an element of four cells. -/
theorem flat_set4 {α : Type} (f : α → List Value) (hk : ∀ x, (f x).length = 4) : ∀ (l : List α) (j : Nat) (x : α) (c0 c1 c2 c3 : Value), f x = [c0, c1, c2, c3] → j < l.length → ((((l.flatMap f).set (j * 4) c0).set (j * 4 + 1) c1).set (j * 4 + 2) c2).set (j * 4 + 3) c3 = (l.set j x).flatMap f
  | [], j, _, _, _, _, _, _, h => by simp at h
  | y :: l, 0, x, c0, c1, c2, c3, hx, _ => by
    have hy := hk y
    match hfy : f y, hy with
    | [d0, d1, d2, d3], _ =>
      rw [List.flatMap_cons, hfy, List.set_cons_zero, List.flatMap_cons, hx]; rfl
  | y :: l, j + 1, x, c0, c1, c2, c3, hx, h => by
    have hy := hk y
    have ih := flat_set4 f hk l j x c0 c1 c2 c3 hx (by simpa using h)
    match hfy : f y, hy with
    | [d0, d1, d2, d3], _ =>
      rw [List.flatMap_cons, hfy, List.set_cons_succ, List.flatMap_cons, hfy, ← ih, show (j + 1) * 4 = j * 4 + 4 by omega]
      rfl
theorem Holds.rowSet4 {α : Type} {w : World} {R : Snap} {L : Asrt} {t : TypeId} {n cap g : Nat} (f : α → List Value) (hk : ∀ x, (f x).length = 4) {X : List α} (H : Holds w R (star (row t 4 (.slice (some ⟨g, 0, none⟩) n cap) n (X.flatMap f)) L)) {j : Nat} (x : α) {c0 c1 c2 c3 : Value} (hx : f x = [c0, c1, c2, c3]) (hj : j < X.length) (hn : X.length = n) :
    Holds ((((w.setCell ⟨g, j * 4, none⟩ c0).setCell ⟨g, j * 4 + 1, none⟩ c1).setCell ⟨g, j * 4 + 2, none⟩ c2).setCell ⟨g, j * 4 + 3, none⟩ c3) R (star (row t 4 (.slice (some ⟨g, 0, none⟩) n cap) n ((X.set j x).flatMap f)) L) := by
  rw [← flat_set4 f hk X j x c0 c1 c2 c3 hx hj]
  exact ((((H.rowSet (j * 4) c0 (by omega)).rowSet (j * 4 + 1) c1 (by omega)).rowSet (j * 4 + 2) c2 (by omega)).rowSet (j * 4 + 3) c3 (by omega))
theorem rd_elt {α : Type} {c : Addr → Option Value} {size n cap : Nat} {a : Option Addr} {l : List α} {f : α → List Value} (hf : ∀ x, (f x).length = size) (h : Rd c size (.slice a n cap) l.length (l.flatMap f)) (hs : 0 < size) {j : Nat} (hj : j < l.length) :
    ∃ b o, a = some ⟨b, o, none⟩ ∧ ∀ r u, r < size → (f l[j])[r]? = some u → c ⟨b, o + (j * size + r), none⟩ = some u := by
  have e : n = l.length := by
    obtain ⟨a', cap', e1, _⟩ := h
    simp only [Value.slice.injEq] at e1; exact e1.2.1
  subst e
  obtain ⟨b, o, rfl, hc⟩ := h.open (Nat.mul_pos (by omega) hs)
  exact ⟨b, o, rfl, fun r u hr hu => hc _ _ (by rw [flat_get f size hf l j r hj hr]; exact hu)⟩
end Sh
/- The packer (layer 6): contracts of the writer and the reader, and of the reference. -/
set_option linter.unusedVariables false
set_option linter.unusedSimpArgs false
namespace Sh
open Go Go.RowKit Go.Proofs
attribute [local go_sem ↓] Go.wp_at_zero Go.wp_at_succ
set_option maxHeartbeats 1000000
set_option maxRecDepth 100000

/-- The width of a number. -/
def wid (k : Int) : Nat := (min (max k 1) 4).toNat
/-- A number's bytes, the greatest first. -/
def be (k n : Nat) : List UInt8 := (List.range k).map fun i => UInt8.ofNat (n / 256 ^ (k - 1 - i))
def nb (k n : Int) : List UInt8 := be (wid k) (max n 0).toNat
theorem wid_bd (k : Int) : 1 ≤ wid k ∧ wid k ≤ 4 := by unfold wid; omega
theorem be_length (k n : Nat) : (be k n).length = k := by simp [be]
theorem nb_length (k n : Int) : (nb k n).length = wid k := be_length _ _
def wr (p : Nat) (l : List UInt8) : Asrt := ex fun v => star (blk p #[v] 153) (rowB v l)

theorem width_spec (k : Int) (w : World) : Calls Try.prog 181 #[.int .i64 k] w fun e w' => e = .returned (.int .i64 (wid k)) ∧ w = w' := by
  go_enter Try.func181, Try.ntmps181
  go_wp2_with fail
  go_ret
  exact ⟨ret_int (by unfold wid; omega), rfl⟩

theorem wr_open {w : World} {R : Snap} {L : Asrt} {p : Nat} {l : List UInt8} (H : Holds w R (star (wr p l) L)) : ∃ a c, Holds w R (star (blk p #[.slice a l.length c] 153) (star (rowB (.slice a l.length c) l) L)) := by
  obtain ⟨v, H1⟩ := H.unex
  replace H1 := H1.unstar
  obtain ⟨a, c, rfl⟩ := H1.swap.rowRd.form
  exact ⟨a, c, H1⟩
theorem wr_shut {w : World} {R : Snap} {L : Asrt} {p : Nat} {l : List UInt8} {v : Value} (H : Holds w R (star (blk p #[v] 153) (star (rowB v l) L))) : Holds w R (star (wr p l) L) := by
  have H1 := H.tostar
  exact Holds.toex (A := fun v => star (blk p #[v] 153) (rowB v l)) v H1
theorem be_take_succ (k n i : Nat) (h : i < k) : (be k n).take (i + 1) = (be k n).take i ++ [UInt8.ofNat (n / 256 ^ (k - 1 - i))] := by
  rw [List.take_succ_eq_append_getElem (by rw [be_length]; exact h)]
  simp [be]
theorem raw_spec {w : World} {R : Snap} {L : Asrt} {p : Nat} {l b : List UInt8} {v : Value} (H : Holds w R (star (wr p l) L)) (hl : l.length ≤ 1000000) (hb : b.length ≤ 1000000) (hr : RdB w.cell? v b) :
    Calls Try.prog 182 #[.pointer (some ⟨p, 0, none⟩), v] w fun e w' => e = .returned (.tuple #[]) ∧ Holds w' R (star (wr p (l ++ b)) L) := by
  obtain ⟨ab, cb, rfl⟩ := hr.form
  obtain ⟨a, c, H1⟩ := wr_open H
  have cp := H1.blkCell
  go_enter Try.func182, Try.ntmps182
  go_wp2_with (with_reducible refine stop_append ?_)
  refine Hold.go (wpList_appendB rfl _ _ rfl rfl rfl H1.swap hr (by omega) ?_)
  intro v2 w2 H2
  obtain ⟨a2, c2, rfl⟩ := H2.rowRd.form
  have cp := H2.swap.blkCell
  have fp := H2.swap.blkFrozen
  go_wp2_with fail
  go_end0
  have H3 := wr_shut (H2.swap.set 0 (.slice a2 (l ++ b).length c2))
  rw [List.length_append] at H3
  exact ⟨rfl, H3⟩
theorem bytes_spec {w : World} {R : Snap} {L : Asrt} {p : Nat} {l : List UInt8} (H : Holds w R (star (wr p l) L)) (hl : l.length ≤ 1000000) :
    Calls Try.prog 118 #[.pointer (some ⟨p, 0, none⟩)] w fun e w' => ∃ v, e = .returned v ∧ Holds w' R (star (rowB v l) (star (wr p l) L)) := by
  obtain ⟨a, c, H1⟩ := wr_open H
  have fp := H1.facts
  have hr := (H1.garbage (.cells #[] tU8)).swap.rowRd
  go_enter Try.func118, Try.ntmps118
  go_wp2_with (with_reducible refine stop_append ?_)
  refine Hold.go (wpList_appendB rfl _ _ rfl rfl rfl (freshB H) hr (by simp only [List.length_nil]; omega) ?_)
  intro v2 w2 H3
  go_wp2_with fail
  go_ret
  exact ⟨_, rfl, H3⟩
theorem num_spec {w : World} {R : Snap} {L : Asrt} {p : Nat} {l : List UInt8} {k n : Int} (H : Holds w R (star (wr p l) L)) (hl : l.length ≤ 1000000) (hn : n ≤ 9223372036854775807) :
    Calls Try.prog 115 #[.pointer (some ⟨p, 0, none⟩), .int .i64 k, .int .i64 n] w fun e w' => e = .returned (.tuple #[]) ∧ Holds w' R (star (wr p (l ++ nb k n)) L) := by
  go_enter Try.func115, Try.ntmps115
  go_wp2_with fail
  refine (width_spec _ _).mono ?_
  rintro e w1 ⟨rfl, rfl⟩
  obtain ⟨kk, hkk⟩ : ∃ kk, kk = wid k := ⟨_, rfl⟩
  obtain ⟨nn, hnn⟩ : ∃ nn : Nat, (nn : Int) = max n 0 := ⟨(max n 0).toNat, by omega⟩
  have HK := Hid.mk' hkk
  have HNN := Hid.mk' hnn
  have hk1 : 1 ≤ kk ∧ kk ≤ 4 := hkk ▸ wid_bd k
  obtain ⟨hk1, hk4⟩ := hk1
  have hn9 : nn ≤ 9223372036854775807 := by omega
  rw [← hkk]
  rw [← hnn]
  clear hkk hnn
  go_wp2_with fail
  go_loopw [12] (fun i wr' => ∃ j : Nat, i = .int .i64 j ∧ j ≤ kk ∧ Holds wr' R (star (wr p (l ++ (be kk nn).take j)) L)) (fun i _ => kk - (intOf i).toNat)
  case atStart => exact ⟨0, rfl, Nat.zero_le _, by simpa using H⟩
  case round =>
    obtain ⟨j, rfl, hj, H1⟩ := hrel
    by_cases hlt : j < kk
    · go_upto_region 5 with fail
      have hlen : (l ++ (be kk nn).take j).length = l.length + j := by simp [be_length]; omega
      generalize hlj : l ++ (be kk nn).take j = lj at H1 hlen
      have HLJ := Hid.mk' hlj
      obtain ⟨a, c, H2⟩ := wr_open H1
      have fp := H2.facts
      obtain ⟨q, hq⟩ : ∃ q, q = nn / 256 ^ (kk - 1 - j) := ⟨_, rfl⟩
      have HQ := Hid.mk' hq
      have e1 : IntKind.i64.wrap (8 * IntKind.i64.wrap (IntKind.i64.wrap ((kk : Int) - 1) - j)) = ((8 * (kk - 1 - j) : Nat) : Int) := by
        rw [IntWalk.i64_in ((kk : Int) - 1) (by omega), IntWalk.i64_in ((kk : Int) - 1 - j) (by omega), IntWalk.i64_in _ (by omega)]; omega
      have hsh : Op.shift .shr .i64 (nn : Int) .i64 (IntKind.i64.wrap (8 * IntKind.i64.wrap (IntKind.i64.wrap ((kk : Int) - 1) - j))) = pure (.int .i64 (q : Int)) := by
        rw [e1, shift_shr_any _ _ _ _ (by omega), Int.toNat_natCast, Nat.min_eq_left (by simp only [IntKind.bits]; omega), hq]
        rw [show (256 : Nat) = 2 ^ 8 from rfl, ← Nat.pow_mul]
        norm_cast
      obtain ⟨x, hx⟩ : ∃ x, x = UInt8.ofNat q := ⟨_, rfl⟩
      have HX := Hid.mk' hx
      have hw : IntKind.u8.wrap (q : Int) = (x.toNat : Int) := by rw [hx, IntKind.wrap_u8]; simp
      have H3 := (H2.alloc #[.int .u8 (x.toNat : Int)] tU8).drew
      have hl9 : lj.length ≤ 1000004 := by omega
      have HL := Hid.mk' hlen
      clear hlen
      have hr3 := blkRdB (n := 1) H3 [x] (by simp [u8s]) rfl (by simp)
      clear e1 hlj hq hx
      go_region_law ((refine step_appendB rfl _ _ (by rfl) (by rfl) (by rfl) H3.drop.swap hr3 (by simp; omega) ?_; intro v6 w6 H6; obtain ⟨a6, c6, rfl⟩ := H6.rowRd.form; have cp6 := H6.swap.blkCell; have fp6 := H6.swap.blkFrozen))
      all_goals
        go_wp2_with fail
        go_roundw
        case rel =>
          refine ⟨j + 1, by go_num, hlt, ?_⟩
          have H7 := wr_shut (H6.swap.set 0 (.slice a6 (lj ++ [x]).length c6))
          rw [List.length_append, List.length_singleton] at H7
          rw [be_take_succ kk nn j hlt, ← HQ.out, ← List.append_assoc, HLJ.out, ← HX.out]
          exact H7
        case measure => simp [intOf]; omega
    · go_wp2_with fail
      go_end0
      refine ⟨rfl, ?_⟩
      rw [List.take_of_length_le (by rw [be_length]; omega)] at H1
      have e1 := HK.out
      have e2 := HNN.out
      rw [show nb k n = be kk nn by unfold nb; rw [← e1, ← e2, Int.toNat_natCast]]
      exact H1
theorem text_spec {w : World} {R : Snap} {L : Asrt} {p : Nat} {l b : List UInt8} {v : Value} (H : Holds w R (star (wr p l) L)) (hl : l.length ≤ 900000) (hb : b.length ≤ 1000000) (hr : RdB R.cell? v b) :
    Calls Try.prog 116 #[.pointer (some ⟨p, 0, none⟩), v] w fun e w' => e = .returned (.tuple #[]) ∧ Holds w' R (star (wr p (l ++ nb 1 (min b.length 255 : Nat) ++ b.take 255)) L) := by
  obtain ⟨ab, cb, rfl⟩ := hr.form
  have hB := hr.bounds
  have i1 : (b.length : Int) ≤ cb := by omega
  obtain ⟨m, hm⟩ : ∃ m, m = min b.length 255 := ⟨_, rfl⟩
  have e1 : min (b.length : Int) 255 = m := by omega
  have hsub := RdB.pre hr m (by omega)
  rw [show b.take 255 = b.take m by rw [hm]; by_cases h : b.length ≤ 255 <;> simp [List.take_of_length_le, h, Nat.min_def]]
  rw [← hm]
  have hmb : (b.take m).length ≤ 255 := by simp; omega
  clear hm hB
  go_enter Try.func116, Try.ntmps116
  go_wp2_with fail
  refine (num_spec (k := 1) (n := m) H (by omega) (by omega)).mono ?_
  rintro e w1 ⟨rfl, H1⟩
  go_wp2_with fail
  refine (raw_spec H1 (by simp [nb_length]; have := wid_bd 1; omega) (by omega) (hsub.world H1)).mono ?_
  rintro e w2 ⟨rfl, H2⟩
  go_wp2_with fail
  go_end0
  exact ⟨rfl, H2⟩
end Sh
