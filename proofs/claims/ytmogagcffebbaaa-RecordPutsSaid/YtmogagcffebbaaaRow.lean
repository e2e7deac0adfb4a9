/- What the arguments of a law read as: from the claim's own reading (DataW.trod) to this seat's words. -/
import Derived.Test.YtmogagcffebbaaaBase
import Derived.ProofKit
import Derived.OpenShut
import Derived.ShutString
import Derived.ChangeOld
import Derived.SizedLaws
import Derived.Deep.Slices
set_option linter.unusedVariables false
set_option linter.unusedSimpArgs false
namespace Sh
open Go Go.RowKit

section
variable {H : Type} {enc : TypeId × Value → H} {P : Program} {w : World} {base : Nat} {spare : Nat → Bool} {held : Bool} {fuel : Nat} {t e : TypeId} {cs : List Value} {x : DataW H × List MemPlace}

theorem read_int {k : IntKind} (ht : P.underlying t = some (.int k)) (h : DataW.trod enc P w base spare held fuel t cs = some x) : ∃ n, cs = [.int k n] ∧ k.min ≤ n ∧ n ≤ k.max := by
  obtain ⟨n, h1, _, h3⟩ := DataW.trod_int ht h
  refine ⟨n, h1, ?_⟩
  simpa [Lit.wf] using h3
theorem read_string (ht : P.underlying t = some .string) (h : DataW.trod enc P w base spare held fuel t cs = some x) : ∃ s : ByteArray, cs = [.string s] ∧ s.size ≤ maxLen := by
  obtain ⟨s, h1, _, h3⟩ := DataW.trod_string ht h
  exact ⟨s, h1, h3⟩

theorem read_slice {α : Type} [Inhabited α] {sz : Nat} {f : α → List Value} {Good : α → Prop} (hf : ∀ a, (f a).length = sz) (hsz : 0 < sz) (ht : P.underlying t = some (.slice e)) (hc : P.cellsOf e = sz)
    (hK : ∀ (fuel : Nat) (cs : List Value) (x : DataW H × List MemPlace), DataW.trod enc P w base spare held fuel e cs = some x → ∃ a, cs = f a ∧ Good a)
    (h : DataW.trod enc P w base spare held fuel t cs = some x) : ∃ (v : Value) (l : List α), cs = [v] ∧ Rd w.cell? sz v l.length (l.flatMap f) ∧ ∀ a ∈ l, Good a := by
  rcases Deep.open_slice ht h with ⟨rfl, _⟩ | ⟨a, len, cap, m, n, D, Pl, rfl, hb, hl, hm, hmm, _, hx⟩
  · exact ⟨_, [], rfl, Rd.nil, fun _ h => by cases h⟩
  · have hle : len ≤ m := by rw [hmm]; split <;> omega
    obtain ⟨g, hg⟩ := Deep.choose_lt (α := α) (n := len) (p := fun i y => w.cells? base (a.add (i * P.cellsOf e)) (P.cellsOf e) = some (f y) ∧ Good y) (fun i hi => by
      obtain ⟨cs', h1, h2⟩ := hx i (by omega)
      obtain ⟨y, rfl, hy⟩ := hK _ _ _ h2
      exact ⟨y, h1, hy⟩)
    refine ⟨_, (List.range len).map g, rfl, ?_, fun y hy => ?_⟩
    · have e1 : ((List.range len).map g).length = len := by simp
      rw [e1]
      refine ⟨_, _, rfl, hl, hm, by rw [flat_len f sz hf, e1], (fun h => by cases h), ?_⟩
      intro b o s ha j u hu
      simp only [Option.some.injEq] at ha
      subst ha
      have hj : j < len * sz := by
        have := (List.getElem?_eq_some_iff.1 hu).1
        rwa [flat_len f sz hf, e1] at this
      have hq : j / sz < len := Nat.div_lt_of_lt_mul (by rw [Nat.mul_comm]; exact hj)
      have hr : j % sz < sz := Nat.mod_lt _ hsz
      have hjj : j / sz * sz + j % sz = j := Nat.div_add_mod' j sz
      have hu2 : (f (g (j / sz)))[j % sz]? = some u := by
        rw [← hjj, flat_get f sz hf _ _ _ (by rw [e1]; exact hq) hr] at hu
        simpa using hu
      have hcl := World.cells?_some (hg _ hq).1
      have hcell := (hcl.2.2 (j % sz) (by rw [hc]; exact hr)).trans hu2
      rw [hc, Deep.add_add, hjj] at hcell
      have hs : s = none := by
        have h0 := World.cells?_some (hg 0 (Nat.lt_of_le_of_lt (Nat.zero_le _) hq)).1
        have h1 := (h0.2.2 0 (by rw [hc]; exact hsz)).trans (List.getElem?_eq_getElem (by rw [hf]; exact hsz))
        rw [Nat.zero_mul, Deep.add_add] at h1
        simpa [Addr.add] using World.cell?_spot h1
      subst hs
      rw [add_plain] at hcell
      exact ⟨rfl, hcell⟩
    · obtain ⟨i, hi, rfl⟩ := List.mem_map.1 hy
      exact (hg i (List.mem_range.1 hi)).2

/-- A struct's field, as it reads. -/
theorem read_fields {fs : Array Field} (ht : P.underlying t = some (.struct fs)) (h : DataW.trod enc P w base spare held fuel t cs = some x) :
    cs.length = P.cellsOf t ∧ ∃ n, ∀ (i : Nat) (f : Field), fs[i]? = some f → ∃ y, DataW.trod enc P w base spare held n f.type ((cs.drop f.offset).take (P.cellsOf f.type)) = some y := by
  obtain ⟨xs, n, rfl, _, hl, hx, hf⟩ := DataW.trod_struct ht h
  refine ⟨hl, n, fun i f hi => ?_⟩
  have hlt : i < xs.length := by rw [hx]; exact (Array.getElem?_eq_some_iff.1 hi).1
  exact ⟨xs[i], (hf i f hi).trans (List.getElem?_eq_getElem hlt)⟩
theorem wf_bounds {k : IntKind} {n : Int} (h : (Lit.int k n).wf = true) : k.min ≤ n ∧ n ≤ k.max := by simpa [Lit.wf] using h
theorem flat_single {α β : Type} (f : α → β) : ∀ l : List α, (l.flatMap fun a => [f a]) = l.map f
  | [] => rfl
  | a :: l => by rw [List.flatMap_cons, flat_single f l]; rfl

theorem read_bytes (ht : P.underlying t = some (.slice e)) (he : P.underlying e = some (.int .u8)) (hc : P.cellsOf e = 1) (h : DataW.trod enc P w base spare held fuel t cs = some x) : ∃ (v : Value) (l : List UInt8), cs = [v] ∧ RdB w.cell? v l := by
  obtain ⟨v, l, h1, h2, _⟩ := read_slice (α := UInt8) (f := fun c => [.int .u8 (c.toNat : Int)]) (Good := fun _ => True) (sz := 1) (fun _ => rfl) (by decide) ht hc (fun fuel cs x hx => by
    obtain ⟨n, rfl, h1, h2⟩ := read_int he hx
    have h1 : (0 : Int) ≤ n := h1
    have h2 : n ≤ 255 := h2
    refine ⟨UInt8.ofNat n.toNat, ?_, trivial⟩
    have h3 : n.toNat < 256 := by omega
    have e : (UInt8.ofNat n.toNat).toNat = n.toNat := by simp [Nat.mod_eq_of_lt h3]
    rw [e, Int.toNat_of_nonneg h1]) h
  refine ⟨v, l, h1, ?_⟩
  rw [flat_single] at h2
  exact h2
end
end Sh
