/- Words of the heap for this seat's proofs: what is read (a snapshot), what is owned (assertions with footprints), and how a world's steps keep both. -/
import Derived.WalkKit
import Derived.Deep.Draws
import Derived.Deep.AppendLies
set_option linter.unusedVariables false
set_option linter.unusedSimpArgs false
namespace Sh
open Go Go.RowKit

theorem _root_.Go.RowKit.Hid.mk' {p : Prop} (h : p) : Hid p := h
/-! ### Snapshots -/
/-- What is read and never changes: some blocks of a world, and its streams. -/
structure Snap where
  blk : Nat → Option Obj
  os : Os
  tape : Nat → Question → Nat
  output : Array (Nat × ByteArray)

def Snap.of (w : World) : Snap := ⟨fun i => w.heap[i]?, w.os, w.tape, w.output⟩

def Snap.cell? (R : Snap) (a : Addr) : Option Value :=
  match R.blk a.block with
  | some (.cells c _ _) => if a.spot.isSome then none else c[a.off]?
  | _ => none

structure Snap.le (R R' : Snap) : Prop where
  os : R'.os = R.os
  tape : R'.tape = R.tape
  output : R'.output = R.output
  blk : ∀ i o, R.blk i = some o → R'.blk i = some o

theorem Snap.le.refl (R : Snap) : R.le R := ⟨rfl, rfl, rfl, fun _ _ h => h⟩
theorem Snap.le.trans {A B C : Snap} (h : A.le B) (k : B.le C) : A.le C :=
  ⟨k.os.trans h.os, k.tape.trans h.tape, k.output.trans h.output, fun i o e => k.blk i o (h.blk i o e)⟩
theorem Snap.le.cell {R R' : Snap} (h : R.le R') {a : Addr} {v : Value} (hc : R.cell? a = some v) : R'.cell? a = some v := by
  unfold Snap.cell? at *
  cases hb : R.blk a.block with
  | none => rw [hb] at hc; cases hc
  | some o => rw [h.blk _ _ hb]; rw [hb] at hc; exact hc

/-! ### Assertions -/
abbrev Heap := Nat → Option Obj
def heapOf (w : World) : Heap := fun i => w.heap[i]?

structure Asrt where
  on : Heap → (Nat → Prop) → Prop
  loc : ∀ {h h' : Heap} {F : Nat → Prop}, on h F → (∀ i, F i → h' i = h i) → on h' F
  bd : ∀ {h : Heap} {F : Nat → Prop}, on h F → ∀ i, F i → (h i).isSome = true

def emp : Asrt := ⟨fun _ F => ∀ i, ¬ F i, fun h _ => h, fun h i hi => absurd hi (h i)⟩

def star (A B : Asrt) : Asrt where
  on h F := ∃ F1 F2, A.on h F1 ∧ B.on h F2 ∧ (∀ i, F1 i → ¬ F2 i) ∧ ∀ i, F i ↔ F1 i ∨ F2 i
  loc := fun ⟨F1, F2, a, b, d, e⟩ k => ⟨F1, F2, A.loc a (fun i hi => k i ((e i).2 (.inl hi))), B.loc b (fun i hi => k i ((e i).2 (.inr hi))), d, e⟩
  bd := fun ⟨F1, F2, a, b, _, e⟩ i hi => ((e i).1 hi).elim (A.bd a i) (B.bd b i)

/-- 'A ∗ B' in words: kept as a function, no notation. -/
def ex {α : Type} (A : α → Asrt) : Asrt where
  on h F := ∃ x, (A x).on h F
  loc := fun ⟨x, a⟩ k => ⟨x, (A x).loc a k⟩
  bd := fun ⟨x, a⟩ => (A x).bd a

/-- A block that is owned whole. -/
def blk (b : Nat) (cs : Array Value) (t : TypeId) : Asrt where
  on h F := h b = some (.cells cs t (0, 0)) ∧ ∀ i, F i ↔ i = b
  loc := fun ⟨a, e⟩ k => ⟨(k b ((e b).2 rfl)).trans a, e⟩
  bd := fun ⟨a, e⟩ i hi => by rw [(e i).1 hi, a]; rfl

/-- A slice's row that is owned: n elements of 'size' cells each, and room behind them. -/
def row (t : TypeId) (size : Nat) (v : Value) (n : Nat) (xs : List Value) : Asrt where
  on h F := xs.length = n * size ∧
    ((v = .slice none 0 0 ∧ n = 0 ∧ ∀ i, ¬ F i) ∨
     ∃ g cap cur, v = .slice (some ⟨g, 0, none⟩) n cap ∧ h g = some (.cells cur t (0, 0)) ∧ n ≤ cap ∧ cap ≤ maxLen ∧ cur.size = cap * size ∧ cur.toList.take (n * size) = xs ∧ ∀ i, F i ↔ i = g)
  loc := by
    rintro h h' F ⟨l, c⟩ k
    refine ⟨l, ?_⟩
    rcases c with c | ⟨g, cap, cur, e1, e2, r1, r2, r3, r4, e⟩
    · exact .inl c
    · exact .inr ⟨g, cap, cur, e1, (k g ((e g).2 rfl)).trans e2, r1, r2, r3, r4, e⟩
  bd := by
    rintro h F ⟨l, c⟩ i hi
    rcases c with ⟨_, _, c⟩ | ⟨g, cap, cur, e1, e2, r1, r2, r3, r4, e⟩
    · exact absurd hi (c i)
    · rw [(e i).1 hi, e2]; rfl

/-- A block that is owned whole, whatever it is. -/
def blkO (b : Nat) (o : Obj) : Asrt where
  on h F := h b = some o ∧ ∀ i, F i ↔ i = b
  loc := fun ⟨a, e⟩ k => ⟨(k b ((e b).2 rfl)).trans a, e⟩
  bd := fun ⟨a, e⟩ i hi => by rw [(e i).1 hi, a]; rfl

/-! ### A world that holds -/
structure Holds (w : World) (R : Snap) (L : Asrt) : Prop where
  os : w.os = R.os
  tape : w.tape = R.tape
  output : w.output = R.output
  blk : ∀ i o, R.blk i = some o → w.heap[i]? = some o
  own : ∃ F, L.on (heapOf w) F ∧ ∀ i, F i → R.blk i = none

theorem Holds.start (w : World) : Holds w (Snap.of w) emp := ⟨rfl, rfl, rfl, fun _ _ h => h, fun _ => False, fun _ h => h, fun _ h => h.elim⟩

section
variable {w w' : World} {R R' : Snap} {A B C D E L : Asrt}

theorem Holds.cell (H : Holds w R L) {a : Addr} {v : Value} (hc : R.cell? a = some v) : w.cell? a = some v := by
  unfold Snap.cell? at hc
  unfold World.cell?
  cases hb : R.blk a.block with
  | none => rw [hb] at hc; cases hc
  | some o => rw [H.blk _ _ hb]; rw [hb] at hc; exact hc

/-- The rule for the walk: a block of the snapshot reads in the world as in the snapshot. -/
theorem Holds.rule (H : Holds w R L) : ∀ b o, (R.blk b).isSome = true → w.cell? ⟨b, o, none⟩ = R.cell? ⟨b, o, none⟩ := by
  intro b o hb
  obtain ⟨x, hx⟩ := Option.isSome_iff_exists.1 hb
  unfold Snap.cell? World.cell?
  rw [H.blk _ _ hx, hx]
  cases x <;> rfl

/-- A frozen block's cells. -/
theorem Holds.frz (H : Holds w R L) {b : Nat} {cs : Array Value} {t : TypeId} {fr : Nat × Nat} (h : R.blk b = some (.cells cs t fr)) : ∀ o, w.cell? ⟨b, o, none⟩ = cs[o]? := by
  intro o
  unfold World.cell?
  rw [H.blk _ _ h]; rfl
theorem Holds.frzLt (H : Holds w R L) {b : Nat} {o : Obj} (h : R.blk b = some o) : b < w.heap.size := (Array.getElem?_eq_some_iff.1 (H.blk _ _ h)).1
theorem Holds.lt (H : Holds w R L) : ∀ b, (R.blk b).isSome = true → b < w.heap.size := by
  intro b hb
  obtain ⟨x, hx⟩ := Option.isSome_iff_exists.1 hb
  exact (Array.getElem?_eq_some_iff.1 (H.blk _ _ hx)).1

/-- The general step: what is owned first is changed, nothing else. -/
theorem Holds.upd (H : Holds w R (star A L)) : ∃ F, A.on (heapOf w) F ∧
    ∀ (w' : World) (B : Asrt) (F' : Nat → Prop), B.on (heapOf w') F' → w'.os = w.os → w'.tape = w.tape → w'.output = w.output →
      (∀ i, i < w.heap.size → ¬ F i → w'.heap[i]? = w.heap[i]?) → (∀ i, F' i → F i ∨ w.heap.size ≤ i) → Holds w' R (star B L) := by
  obtain ⟨h1, h2, h3, h4, F, ⟨F1, F2, ha, hl, hd, he⟩, hR⟩ := H
  refine ⟨F1, ha, fun w' B F' hb k1 k2 k3 k4 k5 => ?_⟩
  have hl2 : ∀ i, F2 i → i < w.heap.size := fun i hi => by
    obtain ⟨x, hx⟩ := Option.isSome_iff_exists.1 (L.bd hl i hi)
    exact (Array.getElem?_eq_some_iff.1 hx).1
  refine ⟨k1.trans h1, k2.trans h2, k3.trans h3, fun i o hi => ?_, fun i => F' i ∨ F2 i, ⟨F', F2, hb, L.loc hl (fun i hi => k4 i (hl2 i hi) (fun hf => hd i hf hi)), fun i hi hi2 => ?_, fun i => Iff.rfl⟩, fun i hi => ?_⟩
  · have hw := h4 i o hi
    rw [k4 i (Array.getElem?_eq_some_iff.1 hw).1 (fun hf => by have := hR i ((he i).2 (.inl hf)); rw [hi] at this; cases this)]
    exact hw
  · rcases k5 i hi with h | h
    · exact hd i h hi2
    · have := hl2 i hi2; omega
  · rcases hi with hi | hi
    · rcases k5 i hi with h | h
      · exact hR i ((he i).2 (.inl h))
      · cases hb2 : R.blk i with
        | none => rfl
        | some o => have := (Array.getElem?_eq_some_iff.1 (h4 i o hb2)).1; omega
    · exact hR i ((he i).2 (.inr hi))

theorem star_on_comm {h : Heap} {F : Nat → Prop} (H : (star A B).on h F) : (star B A).on h F := by
  obtain ⟨F1, F2, ha, hb, hd, he⟩ := H
  exact ⟨F2, F1, hb, ha, fun i h2 h1 => hd i h1 h2, fun i => (he i).trans Or.comm⟩

theorem star_on_assoc {h : Heap} {F : Nat → Prop} (H : (star A (star B C)).on h F) : (star (star A B) C).on h F := by
  obtain ⟨F1, F2, ha, ⟨F3, F4, hb, hc, hd', he'⟩, hd, he⟩ := H
  refine ⟨fun i => F1 i ∨ F3 i, F4, ⟨F1, F3, ha, hb, fun i h1 h3 => hd i h1 ((he' i).2 (.inl h3)), fun i => Iff.rfl⟩, hc, ?_, fun i => ?_⟩
  · rintro i (h1 | h3) h4
    · exact hd i h1 ((he' i).2 (.inr h4))
    · exact hd' i h3 h4
  · rw [he, he', or_assoc]

theorem star_on_assoc' {h : Heap} {F : Nat → Prop} (H : (star (star A B) C).on h F) : (star A (star B C)).on h F := by
  obtain ⟨F1, F2, ⟨F3, F4, ha, hb, hd', he'⟩, hc, hd, he⟩ := H
  refine ⟨F3, fun i => F4 i ∨ F2 i, ha, ⟨F4, F2, hb, hc, fun i h4 h2 => hd i ((he' i).2 (.inr h4)) h2, fun i => Iff.rfl⟩, ?_, fun i => ?_⟩
  · rintro i h3 (h4 | h2)
    · exact hd' i h3 h4
    · exact hd i ((he' i).2 (.inl h3)) h2
  · rw [he, he', or_assoc]

theorem star_on_mono {h : Heap} {F : Nat → Prop} (H : (star A B).on h F) (k : ∀ F, B.on h F → C.on h F) : (star A C).on h F := by
  obtain ⟨F1, F2, ha, hb, hd, he⟩ := H
  exact ⟨F1, F2, ha, k F2 hb, hd, he⟩

theorem Holds.mono (H : Holds w R L) (k : ∀ F, L.on (heapOf w) F → B.on (heapOf w) F) : Holds w R B :=
  ⟨H.os, H.tape, H.output, H.blk, let ⟨F, a, b⟩ := H.own; ⟨F, k F a, b⟩⟩

theorem Holds.comm (H : Holds w R (star A B)) : Holds w R (star B A) := H.mono fun _ h => star_on_comm h
theorem Holds.swap (H : Holds w R (star A (star B L))) : Holds w R (star B (star A L)) := H.mono fun _ h => by
  have h1 := star_on_assoc h
  obtain ⟨F1, F2, ha, hb, hd, he⟩ := h1
  exact star_on_assoc' ⟨F1, F2, star_on_comm ha, hb, hd, he⟩
/-- What is below the first. -/
theorem Holds.under (H : Holds w R (star A L)) (k : ∀ F, L.on (heapOf w) F → B.on (heapOf w) F) : Holds w R (star A B) := H.mono fun _ h => star_on_mono h k
theorem swap_on {h : Heap} {F : Nat → Prop} (H : (star A (star B L)).on h F) : (star B (star A L)).on h F := by
  have h1 := star_on_assoc H
  obtain ⟨F1, F2, ha, hb, hd, he⟩ := h1
  exact star_on_assoc' ⟨F1, F2, star_on_comm ha, hb, hd, he⟩
theorem Holds.swap2 (H : Holds w R (star A (star B (star C L)))) : Holds w R (star A (star C (star B L))) := H.under fun _ => swap_on
theorem Holds.swap3 (H : Holds w R (star A (star B (star C (star D L))))) : Holds w R (star A (star B (star D (star C L)))) := H.under fun _ h => star_on_mono h fun _ => swap_on
/-- The third to the front. -/
theorem Holds.pick3 (H : Holds w R (star A (star B (star C L)))) : Holds w R (star C (star A (star B L))) := H.swap2.swap
theorem Holds.pick4 (H : Holds w R (star A (star B (star C (star D L))))) : Holds w R (star D (star A (star B (star C L)))) := H.swap3.swap2.swap
/-- The first behind the second, and the third. -/
theorem Holds.push3 (H : Holds w R (star A (star B (star C L)))) : Holds w R (star B (star C (star A L))) := H.swap.swap2
theorem Holds.push4 (H : Holds w R (star A (star B (star C (star D L))))) : Holds w R (star B (star C (star D (star A L)))) := H.swap.swap2.swap3
theorem Holds.drop (H : Holds w R (star A L)) : Holds w R L := by
  obtain ⟨h1, h2, h3, h4, F, ⟨F1, F2, ha, hl, hd, he⟩, hR⟩ := H
  exact ⟨h1, h2, h3, h4, F2, hl, fun i hi => hR i ((he i).2 (.inr hi))⟩
theorem Holds.drop2 (H : Holds w R (star A (star B L))) : Holds w R (star A L) := H.swap.drop
theorem Holds.unex {α : Type} {A : α → Asrt} (H : Holds w R (star (ex A) L)) : ∃ x, Holds w R (star (A x) L) := by
  obtain ⟨h1, h2, h3, h4, F, ⟨F1, F2, ⟨x, ha⟩, hl, hd, he⟩, hR⟩ := H
  exact ⟨x, h1, h2, h3, h4, F, ⟨F1, F2, ha, hl, hd, he⟩, hR⟩
theorem Holds.toex {α : Type} {A : α → Asrt} (x : α) (H : Holds w R (star (A x) L)) : Holds w R (star (ex A) L) := by
  obtain ⟨h1, h2, h3, h4, F, ⟨F1, F2, ha, hl, hd, he⟩, hR⟩ := H
  exact ⟨h1, h2, h3, h4, F, ⟨F1, F2, ⟨x, ha⟩, hl, hd, he⟩, hR⟩
theorem Asrt.ext {A B : Asrt} (h : ∀ x F, A.on x F ↔ B.on x F) : A = B := by
  have e : A.on = B.on := funext fun x => funext fun F => propext (h x F)
  cases A; cases B; cases e; rfl
theorem star_comm (A B : Asrt) : star A B = star B A := Asrt.ext fun _ _ => ⟨star_on_comm, star_on_comm⟩
theorem star_assoc (A B C : Asrt) : star (star A B) C = star A (star B C) := Asrt.ext fun _ _ => ⟨star_on_assoc', star_on_assoc⟩
instance : Std.Commutative star := ⟨star_comm⟩
instance : Std.Associative star := ⟨star_assoc⟩
theorem Holds.ac (H : Holds w R A) (h : A = B) : Holds w R B := h ▸ H
theorem Holds.unstar (H : Holds w R (star (star A B) L)) : Holds w R (star A (star B L)) := H.mono fun _ h => star_on_assoc' h
theorem Holds.tostar (H : Holds w R (star A (star B L))) : Holds w R (star (star A B) L) := H.mono fun _ h => star_on_assoc h

/-- A world that has the old one's blocks and streams holds what the old one held. -/
theorem Holds.below (H : Holds w R L) (h : Below w.heap.size w w') : Holds w' R L := by
  obtain ⟨h1, h2, h3, h4, F, hl, hR⟩ := H
  refine ⟨h.os.trans h1, h.tape.trans h2, h.output.trans h3, fun i o hi => ?_, F, L.loc hl (fun i hi => ?_), hR⟩
  · have hw := h4 i o hi
    rw [h.block i (Array.getElem?_eq_some_iff.1 hw).1]; exact hw
  · obtain ⟨x, hx⟩ := Option.isSome_iff_exists.1 (L.bd hl i hi)
    exact h.block i (Array.getElem?_eq_some_iff.1 hx).1
/-- What is new is owned. -/
theorem Holds.fresh (H : Holds w R L) (h : Below w.heap.size w w') {F' : Nat → Prop} (ha : A.on (heapOf w') F') (hf : ∀ i, F' i → w.heap.size ≤ i) : Holds w' R (star A L) := by
  have H0 : Holds w R (star emp L) := by
    obtain ⟨h1, h2, h3, h4, F, hl, hR⟩ := H
    exact ⟨h1, h2, h3, h4, F, ⟨fun _ => False, F, fun _ h => h, hl, fun _ h => h.elim, fun i => ⟨.inr, fun h => h.elim (fun h => h.elim) id⟩⟩, hR⟩
  obtain ⟨F, hF, k⟩ := H0.upd
  exact k w' A F' ha h.os h.tape h.output (fun i hi _ => h.block i hi) (fun i hi => .inr (hf i hi))

theorem Holds.drew (H : Holds w R L) : Holds w.drew R L := H.below (Below.refl _ _).drew
theorem Holds.drewN (H : Holds w R L) (n : Nat) : Holds (w.drewN n) R L := H.below ⟨rfl, rfl, rfl, Nat.le_refl _, fun _ _ => rfl⟩
theorem Holds.weaken (H : Holds w R' L) (h : R.le R') : Holds w R L :=
  ⟨H.os.trans h.os, H.tape.trans h.tape, H.output.trans h.output, fun i o hi => H.blk i o (h.blk i o hi), let ⟨F, a, b⟩ := H.own; ⟨F, a, fun i hi => by
    cases hb : R.blk i with
    | none => rfl
    | some o => have := b i hi; rw [h.blk i o hb] at this; cases this⟩⟩
/-- All of the first world's memory is as it was. -/
theorem Holds.toBelow {W : World} (H : Holds w R L) (h : (Snap.of W).le R) : Below W.heap.size W w := by
  have hb : ∀ k, k < W.heap.size → w.heap[k]? = W.heap[k]? := fun k hk => by
    have e : W.heap[k]? = some W.heap[k] := Array.getElem?_eq_getElem hk
    rw [e]
    exact H.blk k _ (h.blk k _ e)
  refine ⟨H.os.trans h.os, H.tape.trans h.tape, H.output.trans h.output, ?_, hb⟩
  rcases Nat.eq_zero_or_pos W.heap.size with h0 | h0
  · omega
  · have e := hb (W.heap.size - 1) (by omega)
    rw [Array.getElem?_eq_getElem (show W.heap.size - 1 < W.heap.size by omega)] at e
    have := (Array.getElem?_eq_some_iff.1 e).1
    omega
theorem Holds.garbage (H : Holds w R L) (o : Obj) : Holds (w.alloc o) R L := H.below ((Below.refl _ _).alloc (Nat.le_refl _) o)
theorem Holds.alloc (H : Holds w R L) (cs : Array Value) (t : TypeId) : Holds (w.alloc (.cells cs t)) R (star (Sh.blk w.heap.size cs t) L) :=
  H.fresh (A := Sh.blk w.heap.size cs t) (F' := (· = w.heap.size)) ((Below.refl _ _).alloc (Nat.le_refl _) _) ⟨heap_alloc_new w _, fun _ => Iff.rfl⟩ (fun i hi => Nat.le_of_eq (Eq.symm hi))

theorem Holds.allocO (H : Holds w R L) (o : Obj) : Holds (w.alloc o) R (star (blkO w.heap.size o) L) :=
  H.fresh (A := blkO w.heap.size o) (F' := (· = w.heap.size)) ((Below.refl _ _).alloc (Nat.le_refl _) _) ⟨Array.getElem?_push_size, fun _ => Iff.rfl⟩ (fun i hi => Nat.le_of_eq (Eq.symm hi))
theorem Holds.blkAt {b : Nat} {cs : Array Value} {t : TypeId} (H : Holds w R (star (Sh.blk b cs t) L)) : w.heap[b]? = some (.cells cs t (0, 0)) := by
  obtain ⟨h1, h2, h3, h4, F, ⟨F1, F2, ⟨ha, _⟩, hl, hd, he⟩, hR⟩ := H
  exact ha
theorem cell_of_blk {b : Nat} {cs : Array Value} {t : TypeId} (h : w.heap[b]? = some (.cells cs t (0, 0))) (o : Nat) : w.cell? ⟨b, o, none⟩ = cs[o]? := by
  unfold World.cell?; rw [h]; rfl
theorem frozen_of_blk {b : Nat} {cs : Array Value} {t : TypeId} (h : w.heap[b]? = some (.cells cs t (0, 0))) (o : Nat) : w.frozen? ⟨b, o, none⟩ = false := by
  unfold World.frozen?; rw [h]; simp
theorem Holds.blkLt {b : Nat} {cs : Array Value} {t : TypeId} (H : Holds w R (star (Sh.blk b cs t) L)) : b < w.heap.size := (Array.getElem?_eq_some_iff.1 H.blkAt).1
theorem Holds.blkNe {b : Nat} {cs : Array Value} {t : TypeId} (H : Holds w R (star (Sh.blk b cs t) L)) : w.heap.size ≠ b := by have := H.blkLt; omega
theorem Holds.blkNes {b : Nat} {cs : Array Value} {t : TypeId} (H : Holds w R (star (Sh.blk b cs t) L)) : ∀ k, w.heap.size + k ≠ b := by have := H.blkLt; intro k; omega
theorem Holds.blkCell {b : Nat} {cs : Array Value} {t : TypeId} (H : Holds w R (star (Sh.blk b cs t) L)) (o : Nat) : w.cell? ⟨b, o, none⟩ = cs[o]? := cell_of_blk H.blkAt o
theorem Holds.blkFrozen {b : Nat} {cs : Array Value} {t : TypeId} (H : Holds w R (star (Sh.blk b cs t) L)) (o : Nat) : w.frozen? ⟨b, o, none⟩ = false := frozen_of_blk H.blkAt o
theorem Holds.facts {b : Nat} {cs : Array Value} {t : TypeId} (H : Holds w R (star (Sh.blk b cs t) L)) : b < w.heap.size ∧ w.heap.size ≠ b ∧ (∀ o, w.cell? ⟨b, o, none⟩ = cs[o]?) ∧ ∀ o, w.frozen? ⟨b, o, none⟩ = false :=
  ⟨H.blkLt, H.blkNe, H.blkCell, H.blkFrozen⟩
theorem Holds.frzFacts (H : Holds w R L) {b : Nat} {cs : Array Value} {t : TypeId} {fr : Nat × Nat} (h : R.blk b = some (.cells cs t fr)) : b < w.heap.size ∧ w.heap.size ≠ b ∧ (∀ o, w.cell? ⟨b, o, none⟩ = cs[o]?) :=
  ⟨H.frzLt h, (by have := H.frzLt h; omega), H.frz h⟩
/-- A store into an owned block. -/
theorem Holds.set {b : Nat} {cs : Array Value} {t : TypeId} (H : Holds w R (star (Sh.blk b cs t) L)) (o : Nat) (v : Value) : Holds (w.setCell ⟨b, o, none⟩ v) R (star (Sh.blk b (cs.setIfInBounds o v) t) L) := by
  obtain ⟨F, ⟨hF, hF'⟩, k⟩ := H.upd
  refine k _ _ F ⟨?_, hF'⟩ rfl rfl rfl (fun i hi hn => Below.heap_setCell _ _ _ _ (fun e => hn ((hF' i).2 e))) (fun i hi => .inl hi)
  have hF2 : w.heap[b]? = some (.cells cs t (0, 0)) := hF
  show (w.heap.modify b _)[b]? = _
  simp only [Array.getElem?_modify, if_true, hF2, Option.map_some]
  rfl
/-- What is owned is read from now on, and never written again. -/
theorem Holds.freeze (H : Holds w R (star A L)) : ∃ R', R.le R' ∧ Holds w R' L ∧ (∃ F, A.on R'.blk F) ∧ (∀ i o, R'.blk i = some o → w.heap[i]? = some o) := by
  obtain ⟨h1, h2, h3, h4, F, ⟨F1, F2, ha, hl, hd, he⟩, hR⟩ := H
  classical
  have hw : ∀ i o, (if F1 i then heapOf w i else R.blk i) = some o → w.heap[i]? = some o := fun i o hi => by
    by_cases hf : F1 i
    · rw [if_pos hf] at hi; exact hi
    · rw [if_neg hf] at hi; exact h4 i o hi
  refine ⟨⟨fun i => if F1 i then heapOf w i else R.blk i, R.os, R.tape, R.output⟩, ⟨rfl, rfl, rfl, fun i o hi => ?_⟩, ⟨h1, h2, h3, hw, F2, hl, fun i hi => ?_⟩, ⟨F1, A.loc ha (fun i hi => ?_)⟩, hw⟩
  · by_cases hf : F1 i
    · have := hR i ((he i).2 (.inl hf)); rw [hi] at this; cases this
    · show (if F1 i then _ else _) = _; rw [if_neg hf]; exact hi
  · show (if F1 i then _ else _) = _
    rw [if_neg (fun hf => hd i hf hi)]; exact hR i ((he i).2 (.inr hi))
  · show (if F1 i then _ else _) = _
    rw [if_pos hi]
end

/-! ### What a slice reads as -/
def cellOf (h : Heap) (a : Addr) : Option Value :=
  match h a.block with
  | some (.cells c _ _) => if a.spot.isSome then none else c[a.off]?
  | _ => none
theorem cellOf_world (w : World) : cellOf (heapOf w) = w.cell? := rfl
theorem cellOf_snap (R : Snap) : cellOf R.blk = R.cell? := rfl

/-- Slice v has n elements, whose cells are xs. -/
def Rd (c : Addr → Option Value) (size : Nat) (v : Value) (n : Nat) (xs : List Value) : Prop :=
  ∃ a cap, v = .slice a n cap ∧ n ≤ cap ∧ cap ≤ maxLen ∧ xs.length = n * size ∧ (a = none → cap = 0) ∧
    ∀ b o s, a = some ⟨b, o, s⟩ → ∀ j u, xs[j]? = some u → s = none ∧ c ⟨b, o + j, none⟩ = some u

section
variable {c c' : Addr → Option Value} {size n cap : Nat} {v : Value} {a : Option Addr} {xs : List Value}
theorem Rd.mono (h : Rd c size v n xs) (k : ∀ a v, c a = some v → c' a = some v) : Rd c' size v n xs := by
  obtain ⟨a, cap, h1, h2, h3, h4, h5, h6⟩ := h
  exact ⟨a, cap, h1, h2, h3, h4, h5, fun b o s e j u hu => ⟨(h6 b o s e j u hu).1, k _ _ (h6 b o s e j u hu).2⟩⟩
theorem Rd.form (h : Rd c size v n xs) : ∃ a cap, v = .slice a n cap := by
  obtain ⟨a, cap, h1, _⟩ := h; exact ⟨a, cap, h1⟩
theorem Rd.len (h : Rd c size v n xs) : xs.length = n * size := by
  obtain ⟨a, cap, h1, h2, h3, h4, _⟩ := h; exact h4
theorem Rd.max (h : Rd c size v n xs) : n ≤ maxLen := by
  obtain ⟨a, cap, h1, h2, h3, h4, _⟩ := h; omega
theorem Rd.bounds (h : Rd c size (.slice a n cap) n xs) : n ≤ cap ∧ cap ≤ maxLen ∧ xs.length = n * size := by
  obtain ⟨a', cap', h1, h2, h3, h4, _⟩ := h
  simp only [Value.slice.injEq, true_and] at h1
  obtain ⟨rfl, rfl⟩ := h1
  exact ⟨h2, h3, h4⟩
theorem Rd.nil : Rd c size (.slice none 0 0) 0 [] := ⟨none, 0, rfl, Nat.le_refl _, Nat.zero_le _, by simp, fun _ => rfl, fun _ _ _ e => by cases e⟩
/-- The address of what has elements, and its cells. -/
theorem Rd.open (h : Rd c size (.slice a n cap) n xs) (hn : 0 < n * size) : ∃ b o, a = some ⟨b, o, none⟩ ∧ ∀ j u, xs[j]? = some u → c ⟨b, o + j, none⟩ = some u := by
  obtain ⟨a', cap', h1, h2, h3, h4, h5, h6⟩ := h
  simp only [Value.slice.injEq, true_and] at h1
  obtain ⟨rfl, rfl⟩ := h1
  cases a with
  | none => have := h5 rfl; subst this; have : n = 0 := by omega
            subst this; omega
  | some ad =>
    obtain ⟨b, o, s⟩ := ad
    have hx : xs[0]? = some xs[0] := List.getElem?_eq_getElem (by omega)
    obtain rfl := (h6 b o s rfl 0 _ hx).1
    exact ⟨b, o, rfl, fun j u hu => (h6 b o none rfl j u hu).2⟩

/-- The address of a slice of a slice. -/
def adr (a : Option Addr) (cap lo size : Nat) : Option Addr := if cap = lo then a else a.map (·.add (lo * size))
@[go_sem] theorem adr_zero (a : Option Addr) (cap size : Nat) : adr a cap 0 size = a := by
  unfold adr
  split
  · rfl
  · cases a <;> simp [Addr.add]
theorem add_plain (b o j : Nat) : (⟨b, o, none⟩ : Addr).add j = ⟨b, o + j, none⟩ := by unfold Addr.add; split <;> simp_all
theorem Rd.sub (h : Rd c size (.slice a n cap) n xs) (lo hi cap' : Nat) (h1 : lo ≤ hi) (h2 : hi ≤ n) (h3 : hi ≤ cap') (h4 : cap' ≤ cap) :
    Rd c size (.slice (adr a cap' lo size) (hi - lo) (cap' - lo)) (hi - lo) ((xs.drop (lo * size)).take ((hi - lo) * size)) := by
  obtain ⟨k1, k2, k3⟩ := h.bounds
  have hm : lo * size + (hi - lo) * size ≤ n * size := by rw [← Nat.add_mul]; exact Nat.mul_le_mul_right _ (by omega)
  refine ⟨_, _, rfl, by omega, by omega, by simp; omega, ?_, ?_⟩
  · intro ha
    by_cases e : cap' = lo
    · omega
    · rw [adr, if_neg e] at ha
      cases a with
      | none =>
        obtain ⟨a', cap'', e1, _, _, _, e5, _⟩ := h
        simp only [Value.slice.injEq, true_and] at e1
        obtain ⟨rfl, rfl⟩ := e1
        have := e5 rfl; omega
      | some _ => cases ha
  · intro b o s ha j u hu
    rw [List.getElem?_take] at hu
    split at hu
    · rename_i hj
      rw [List.getElem?_drop] at hu
      have hn : 0 < n * size := by
        have := (List.getElem?_eq_some_iff.1 hu).1
        omega
      obtain ⟨b', o', rfl, hc⟩ := h.open hn
      have hlt : lo < hi := by
        rcases Nat.lt_or_ge lo hi with h | h
        · exact h
        · have : hi - lo = 0 := by omega
          rw [this] at hj; omega
      rw [adr, if_neg (by omega)] at ha
      simp only [Option.map_some, add_plain, Option.some.injEq, Addr.mk.injEq] at ha
      obtain ⟨rfl, rfl, rfl⟩ := ha
      exact ⟨rfl, by rw [Nat.add_assoc]; exact hc _ _ hu⟩
    · cases hu
end

theorem Rd.pre {c : Addr → Option Value} {size n cap : Nat} {a : Option Addr} {xs : List Value} (h : Rd c size (.slice a n cap) n xs) (hi : Nat) (h1 : hi ≤ n) : Rd c size (.slice a hi cap) hi (xs.take (hi * size)) := by
  obtain ⟨a', cap', e1, k2, k3, k4, k5, k6⟩ := h
  simp only [Value.slice.injEq, true_and] at e1
  obtain ⟨rfl, rfl⟩ := e1
  have hm : hi * size ≤ n * size := Nat.mul_le_mul_right _ h1
  refine ⟨a, cap, rfl, by omega, k3, by simp; omega, k5, fun b o s e j u hu => k6 b o s e j u ?_⟩
  rw [List.getElem?_take] at hu
  split at hu
  · exact hu
  · cases hu

/-- The same elements, under a smaller capacity. -/
theorem Rd.subCap {c : Addr → Option Value} {size n cap : Nat} {a : Option Addr} {xs : List Value} (h : Rd c size (.slice a n cap) n xs) (cap' : Nat) (h1 : n ≤ cap') (h2 : cap' ≤ cap) : Rd c size (.slice a n cap') n xs := by
  obtain ⟨a', cap'', e1, k2, k3, k4, k5, k6⟩ := h
  simp only [Value.slice.injEq, true_and] at e1
  obtain ⟨rfl, rfl⟩ := e1
  exact ⟨a, cap', rfl, h1, by omega, k4, fun e => by have := k5 e; omega, k6⟩

section
variable {P : Program} (w : World) (t : TypeId) (a : Option Addr) (len cap : Nat) (ht : P.underlying t = some (.slice (P.elem t)))
include ht
@[go_sem high] theorem run_sub_lh (kl kh : IntKind) (l h : Int) (h0 : 0 ≤ l) (h1 : l ≤ h) (h2 : h ≤ cap) :
    (Instr.slice t (.slice a len cap) (some (.int kl l)) (some (.int kh h)) none).run P w =
      ((Go.sizeOf (P.elem t)).run P w).andThen fun s w => .ok (.slice (adr a cap l.toNat s) (h.toNat - l.toNat) (cap - l.toNat)) w := run_slice_lh w t a len cap ht kl kh l h h0 h1 h2
@[go_sem high] theorem run_sub_h (kh : IntKind) (h : Int) (h0 : 0 ≤ h) (h2 : h ≤ cap) :
    (Instr.slice t (.slice a len cap) none (some (.int kh h)) none).run P w =
      ((Go.sizeOf (P.elem t)).run P w).andThen fun s w => .ok (.slice (adr a cap 0 s) (h.toNat - 0) (cap - 0)) w := run_slice_h w t a len cap ht kh h h0 h2
@[go_sem high] theorem run_sub_l (kl : IntKind) (l : Int) (h0 : 0 ≤ l) (h1 : l ≤ len) :
    (Instr.slice t (.slice a len cap) (some (.int kl l)) none none).run P w =
      ((Go.sizeOf (P.elem t)).run P w).andThen fun s w => .ok (.slice (adr a cap l.toNat s) (len - l.toNat) (cap - l.toNat)) w := run_slice_l w t a len cap ht kl l h0 h1
@[go_sem high] theorem run_sub_lhm (kl kh km : IntKind) (l h m : Int) (h0 : 0 ≤ l) (h1 : l ≤ h) (h2 : h ≤ m) (h3 : m ≤ cap) :
    (Instr.slice t (.slice a len cap) (some (.int kl l)) (some (.int kh h)) (some (.int km m))).run P w =
      ((Go.sizeOf (P.elem t)).run P w).andThen fun s w => .ok (.slice (adr a m.toNat l.toNat s) (h.toNat - l.toNat) (m.toNat - l.toNat)) w := run_slice_lhm w t a len cap ht kl kh km l h m h0 h1 h2 h3
@[go_sem high] theorem run_sub_hm (kh km : IntKind) (h m : Int) (h0 : 0 ≤ h) (h2 : h ≤ m) (h3 : m ≤ cap) :
    (Instr.slice t (.slice a len cap) none (some (.int kh h)) (some (.int km m))).run P w =
      ((Go.sizeOf (P.elem t)).run P w).andThen fun s w => .ok (.slice (adr a m.toNat 0 s) (h.toNat - 0) (m.toNat - 0)) w := run_slice_hm w t a len cap ht kh km h m h0 h2 h3
end

theorem row_rd {t : TypeId} {size n : Nat} {v : Value} {xs : List Value} {h : Heap} {F : Nat → Prop} (H : (row t size v n xs).on h F) : Rd (cellOf h) size v n xs := by
  obtain ⟨hl, c⟩ := H
  rcases c with ⟨rfl, rfl, _⟩ | ⟨g, cap, cur, rfl, h2, r1, r2, r3, r4, _⟩
  · have : xs = [] := List.eq_nil_of_length_eq_zero (by omega)
    subst this; exact Rd.nil
  · refine ⟨_, _, rfl, r1, r2, hl, (fun e => by cases e), ?_⟩
    intro b o s e j u hu
    simp only [Option.some.injEq, Addr.mk.injEq] at e
    obtain ⟨rfl, rfl, rfl⟩ := e
    refine ⟨rfl, ?_⟩
    unfold cellOf
    simp only [h2, Nat.zero_add]
    rw [← r4, List.getElem?_take] at hu
    split at hu
    · simpa using hu
    · cases hu
theorem Holds.rowRd {w : World} {R : Snap} {L : Asrt} {t : TypeId} {size n : Nat} {v : Value} {xs : List Value} (H : Holds w R (star (row t size v n xs) L)) : Rd w.cell? size v n xs := by
  obtain ⟨h1, h2, h3, h4, F, ⟨F1, F2, ha, hl, hd, he⟩, hR⟩ := H
  exact row_rd ha
/-- A row that is read from now on. -/
theorem Holds.freezeRow {w : World} {R : Snap} {L : Asrt} {t : TypeId} {size n : Nat} {v : Value} {xs : List Value} (H : Holds w R (star (row t size v n xs) L)) :
    ∃ R', R.le R' ∧ Holds w R' L ∧ Rd R'.cell? size v n xs := by
  obtain ⟨R', h1, h2, ⟨F, h3⟩, _⟩ := H.freeze
  exact ⟨R', h1, h2, row_rd h3⟩
theorem Holds.freezeBlk {w : World} {R : Snap} {L : Asrt} {b : Nat} {cs : Array Value} {t : TypeId} (H : Holds w R (star (Sh.blk b cs t) L)) :
    ∃ R', R.le R' ∧ Holds w R' L ∧ R'.blk b = some (.cells cs t (0, 0)) := by
  obtain ⟨R', h1, h2, ⟨F, h3, _⟩, _⟩ := H.freeze
  exact ⟨R', h1, h2, h3⟩
theorem Holds.allocR {w : World} {R : Snap} {L : Asrt} (H : Holds w R L) (o : Obj) : ∃ R', R.le R' ∧ Holds (w.alloc o) R' L ∧ R'.blk w.heap.size = some o := by
  obtain ⟨R', h1, h2, ⟨F, h3, _⟩, _⟩ := (H.allocO o).freeze
  exact ⟨R', h1, h2, h3⟩
theorem Rd.world {w : World} {R : Snap} {L : Asrt} {size n : Nat} {v : Value} {xs : List Value} (h : Rd R.cell? size v n xs) (H : Holds w R L) : Rd w.cell? size v n xs := h.mono fun _ _ e => H.cell e
theorem Rd.le {R R' : Snap} {size n : Nat} {v : Value} {xs : List Value} (h : Rd R.cell? size v n xs) (H : R.le R') : Rd R'.cell? size v n xs := h.mono fun _ _ e => H.cell e
theorem Rd.below {w w' : World} {size n : Nat} {v : Value} {xs : List Value} (h : Rd w.cell? size v n xs) (H : Below w.heap.size w w') : Rd w'.cell? size v n xs :=
  h.mono fun a v e => (H.cell (World.block_lt_of_cell? w a e)).trans e
/-- A whole block as a row. -/
theorem blk_row {b : Nat} {cs : Array Value} {t : TypeId} {h : Heap} {F : Nat → Prop} (H : (blk b cs t).on h F) (size n cap : Nat) (h1 : n ≤ cap) (h2 : cap ≤ maxLen) (h3 : cs.size = cap * size) :
    (row t size (.slice (some ⟨b, 0, none⟩) n cap) n (cs.toList.take (n * size))).on h F := by
  refine ⟨?_, .inr ⟨b, cap, cs, rfl, H.1, h1, h2, h3, rfl, H.2⟩⟩
  have : n * size ≤ cap * size := Nat.mul_le_mul_right _ h1
  simp; omega
theorem Holds.toRow {w : World} {R : Snap} {L : Asrt} {b : Nat} {cs : Array Value} {t : TypeId} (H : Holds w R (star (Sh.blk b cs t) L)) (size n cap : Nat) (h1 : n ≤ cap) (h2 : cap ≤ maxLen) (h3 : cs.size = cap * size) :
    Holds w R (star (row t size (.slice (some ⟨b, 0, none⟩) n cap) n (cs.toList.take (n * size))) L) := by
  refine H.mono fun F => ?_
  rintro ⟨F1, F2, ha, hl, hd, he⟩
  exact ⟨F1, F2, blk_row ha size n cap h1 h2 h3, hl, hd, he⟩
theorem Holds.nilRow {w : World} {R : Snap} {L : Asrt} (H : Holds w R L) (t : TypeId) (size : Nat) : Holds w R (star (row t size (.slice none 0 0) 0 []) L) :=
  H.fresh (F' := fun _ => False) (Below.refl _ _) ⟨by simp, .inl ⟨rfl, rfl, fun _ h => h⟩⟩ (fun _ h => h.elim)

theorem flat_get {α β : Type} (f : α → List β) (k : Nat) (hk : ∀ x, (f x).length = k) : ∀ (l : List α) (j r : Nat) (h : j < l.length), r < k → (l.flatMap f)[j * k + r]? = (f l[j])[r]?
  | [], j, r, h, _ => by simp at h
  | x :: l, 0, r, h, hr => by
    rw [List.flatMap_cons, Nat.zero_mul, Nat.zero_add, List.getElem?_append_left (by rw [hk]; exact hr)]; rfl
  | x :: l, j + 1, r, h, hr => by
    rw [List.flatMap_cons, List.getElem?_append_right (by rw [hk, Nat.succ_mul]; omega), hk, show (j + 1) * k + r - k = j * k + r by rw [Nat.succ_mul]; omega]
    exact flat_get f k hk l j r (by simpa using h) hr
theorem flat_len {α β : Type} (f : α → List β) (k : Nat) (hk : ∀ x, (f x).length = k) : ∀ l : List α, (l.flatMap f).length = l.length * k
  | [] => by simp
  | x :: l => by rw [List.flatMap_cons, List.length_append, hk, flat_len f k hk l, List.length_cons, Nat.succ_mul]; omega

/-! ### Bytes -/
def u8s (l : List UInt8) : List Value := l.map fun c => .int .u8 (c.toNat : Int)
@[simp] theorem u8s_length (l : List UInt8) : (u8s l).length = l.length := by simp [u8s]
theorem u8s_append (l k : List UInt8) : u8s (l ++ k) = u8s l ++ u8s k := by simp [u8s]
theorem u8s_nil : u8s [] = [] := rfl
theorem u8s_cons (c : UInt8) (l : List UInt8) : u8s (c :: l) = .int .u8 (c.toNat : Int) :: u8s l := rfl
theorem u8s_drop (l : List UInt8) (n : Nat) : (u8s l).drop n = u8s (l.drop n) := by simp [u8s]
theorem u8s_take (l : List UInt8) (n : Nat) : (u8s l).take n = u8s (l.take n) := by simp [u8s]
theorem u8s_one (l : List UInt8) : ∀ x ∈ u8s l, x.oneCell' = true := by
  intro x hx; obtain ⟨c, _, rfl⟩ := List.mem_map.1 hx; rfl
theorem u8s_get (l : List UInt8) (j : Nat) (h : j < l.length) : (u8s l)[j]? = some (.int .u8 (l[j].toNat : Int)) := by simp [u8s, h]
theorem u8_lt (c : UInt8) : (c.toNat : Int) < 256 := by have := c.toNat_lt; omega
theorem u8_toNat_inj {a b : UInt8} : (a.toNat : Int) = (b.toNat : Int) ↔ a = b := by
  constructor
  · intro h; exact UInt8.toNat_inj.1 (by omega)
  · rintro rfl; rfl
/-- A slice that reads as bytes. -/
abbrev RdB (c : Addr → Option Value) (v : Value) (l : List UInt8) : Prop := Rd c 1 v l.length (u8s l)
theorem RdB.nil {c : Addr → Option Value} : RdB c (.slice none 0 0) [] := Rd.nil
theorem RdB.open {c : Addr → Option Value} {a : Option Addr} {n cap : Nat} {l : List UInt8} (h : RdB c (.slice a n cap) l) (hn : 0 < l.length) :
    ∃ b o, a = some ⟨b, o, none⟩ ∧ ∀ j (h : j < l.length), c ⟨b, o + j, none⟩ = some (.int .u8 (l[j].toNat : Int)) := by
  have e : n = l.length := by
    obtain ⟨a', cap', e1, _⟩ := h
    simp only [Value.slice.injEq] at e1; exact e1.2.1
  subst e
  obtain ⟨b, o, e, hc⟩ := Rd.open h (by omega)
  exact ⟨b, o, e, fun j hj => hc j _ (u8s_get l j hj)⟩
theorem RdB.sub {c : Addr → Option Value} {a : Option Addr} {cap : Nat} {l : List UInt8} (h : RdB c (.slice a l.length cap) l) (lo hi cap' : Nat) (h1 : lo ≤ hi) (h2 : hi ≤ l.length) (h3 : hi ≤ cap') (h4 : cap' ≤ cap) :
    RdB c (.slice (adr a cap' lo 1) (hi - lo) (cap' - lo)) ((l.drop lo).take (hi - lo)) := by
  have := Rd.sub h lo hi cap' h1 h2 h3 h4
  rw [Nat.mul_one, Nat.mul_one, u8s_drop, u8s_take] at this
  have e : ((l.drop lo).take (hi - lo)).length = hi - lo := by simp; omega
  show Rd c 1 _ ((l.drop lo).take (hi - lo)).length _
  rw [e]; exact this

/-- What a frozen block of bytes reads as. -/
theorem frzRdB {R : Snap} {b n c : Nat} {cs : Array Value} {t : TypeId} {fr : Nat × Nat} (h : R.blk b = some (.cells cs t fr)) (l : List UInt8) (hl : cs.toList = u8s l) (hn : n = l.length) (hc : n ≤ c) (hm : c ≤ maxLen) : RdB R.cell? (.slice (some ⟨b, 0, none⟩) n c) l := by
  subst hn
  refine ⟨_, _, rfl, hc, hm, by simp, (fun e => by cases e), ?_⟩
  intro b' o' s e j u hu
  simp only [Option.some.injEq, Addr.mk.injEq] at e
  obtain ⟨rfl, rfl, rfl⟩ := e
  refine ⟨rfl, ?_⟩
  unfold Snap.cell?
  simp only [h, Nat.zero_add]
  rw [← hl] at hu
  simpa using hu
/-! ### Cells that stay, while a region is walked -/
section
variable {w : World} {b : Nat} {cs : Array Value} {f : Nat → Option Value}
theorem keep_drew (h : ∀ o, w.cell? ⟨b, o, none⟩ = f o) : ∀ o, w.drew.cell? ⟨b, o, none⟩ = f o := h
theorem keep_drewN {n : Nat} (h : ∀ o, w.cell? ⟨b, o, none⟩ = f o) : ∀ o, (w.drewN n).cell? ⟨b, o, none⟩ = f o := h
theorem keep_alloc {x : Obj} (h : ∀ o, w.cell? ⟨b, o, none⟩ = f o) (hb : b < w.heap.size) : ∀ o, (w.alloc x).cell? ⟨b, o, none⟩ = f o := fun o => (World.cell?_alloc_lt w x ⟨b, o, none⟩ hb).trans (h o)
theorem keep_set {a : Addr} {v : Value} (h : ∀ o, w.cell? ⟨b, o, none⟩ = f o) (hb : a.block ≠ b) : ∀ o, (w.setCell a v).cell? ⟨b, o, none⟩ = f o := fun o => (World.cell?_setCell_other w a ⟨b, o, none⟩ v (fun e => hb (by rw [e]))).trans (h o)
end

/-! ### max and min -/
@[go_sem high] theorem max2_int (k k' : IntKind) (x y : Int) : Builtin.max2 (.int k x) (.int k' y) = pure (.int k (max x y)) := by
  have e : (if x < y then y else x) = max x y := by omega
  simp only [Builtin.max2, gt_iff_lt, e]
@[go_sem high] theorem min2_int (k k' : IntKind) (x y : Int) : Builtin.min2 (.int k x) (.int k' y) = pure (.int k (min x y)) := by
  have e : (if y < x then y else x) = min x y := by omega
  simp only [Builtin.min2, e]
@[go_sem high] theorem max_two (ats : Array TypeId) (ty : TypeId) (a b : Value) : Builtin.max_ ats ty #[a, b] = (Builtin.max2 a b >>= fun s => pure s) := by simp only [Builtin.max_, List.foldlM_cons, List.foldlM_nil]
@[go_sem high] theorem min_two (ats : Array TypeId) (ty : TypeId) (a b : Value) : Builtin.min_ ats ty #[a, b] = (Builtin.min2 a b >>= fun s => pure s) := by simp only [Builtin.min_, List.foldlM_cons, List.foldlM_nil]

theorem RdB.pre {c : Addr → Option Value} {cap : Nat} {a : Option Addr} {l : List UInt8} (h : RdB c (.slice a l.length cap) l) (hi : Nat) (h1 : hi ≤ l.length) : RdB c (.slice a hi cap) (l.take hi) := by
  have := Rd.pre h hi h1
  rw [Nat.mul_one, u8s_take] at this
  have e : (l.take hi).length = hi := by simp; omega
  show Rd c 1 _ (l.take hi).length _
  rw [e]; exact this

/-! ### Ends -/
theorem ret_bool {a b : Bool} (h : a = b) : Ending.returned (.bool a) = .returned (.bool b) := by rw [h]
theorem ret_int {k : IntKind} {a b : Int} (h : a = b) : Ending.returned (.int k a) = .returned (.int k b) := by rw [h]
theorem drewN2 (w : World) (a b : Nat) : ∃ q, (w.drewN a).drewN b = w.drewN q := ⟨a + b, World.drewN_drewN ..⟩

/-- A store into an owned row. -/
theorem Holds.rowSet {w : World} {R : Snap} {L : Asrt} {t : TypeId} {size n cap g : Nat} {xs : List Value} (H : Holds w R (star (row t size (.slice (some ⟨g, 0, none⟩) n cap) n xs) L)) (j : Nat) (u : Value) (hj : j < n * size) :
    Holds (w.setCell ⟨g, j, none⟩ u) R (star (row t size (.slice (some ⟨g, 0, none⟩) n cap) n (xs.set j u)) L) := by
  obtain ⟨F, hF, k⟩ := H.upd
  obtain ⟨hl, c⟩ := hF
  rcases c with ⟨h, _⟩ | ⟨g', cap', cur, e1, e2, r1, r2, r3, r4, e⟩
  · cases h
  · simp only [Value.slice.injEq, Option.some.injEq, Addr.mk.injEq, true_and] at e1
    obtain ⟨⟨rfl, _⟩, rfl⟩ := e1
    have e2' : w.heap[g]? = some (.cells cur t (0, 0)) := e2
    refine k _ _ F ⟨by rw [List.length_set]; exact hl, .inr ⟨g, cap, cur.setIfInBounds j u, rfl, ?_, r1, r2, by simpa using r3, ?_, e⟩⟩ rfl rfl rfl (fun i hi hn => Below.heap_setCell _ _ _ _ (fun h => hn ((e i).2 h))) (fun i hi => .inl hi)
    · show (w.heap.modify g _)[g]? = _
      simp only [Array.getElem?_modify, if_true, e2', Option.map_some]
      rfl
    · rw [Array.toList_setIfInBounds, List.take_set, r4]
/-- Where an owned row with elements lies. -/
theorem Holds.rowAt {w : World} {R : Snap} {L : Asrt} {t : TypeId} {size n : Nat} {v : Value} {xs : List Value} (H : Holds w R (star (row t size v n xs) L)) (hn : 0 < n) :
    ∃ g cap, v = .slice (some ⟨g, 0, none⟩) n cap ∧ n ≤ cap ∧ g < w.heap.size ∧ (∀ j u, xs[j]? = some u → w.cell? ⟨g, j, none⟩ = some u) ∧ ∀ o, w.frozen? ⟨g, o, none⟩ = false := by
  have hr := H.rowRd
  obtain ⟨F, ⟨hl, c⟩, _⟩ := H.upd
  rcases c with ⟨_, h, _⟩ | ⟨g, cap, cur, rfl, e2, r1, r2, r3, r4, e⟩
  · omega
  · have e2' : w.heap[g]? = some (.cells cur t (0, 0)) := e2
    refine ⟨g, cap, rfl, r1, (Array.getElem?_eq_some_iff.1 e2').1, fun j u hu => ?_, fun o => frozen_of_blk e2' o⟩
    rw [cell_of_blk e2', ← Array.getElem?_toList]
    rw [← r4, List.getElem?_take] at hu
    split at hu
    · exact hu
    · cases hu
theorem u8s_set (l : List UInt8) (j : Nat) (c : UInt8) : (u8s l).set j (.int .u8 (c.toNat : Int)) = u8s (l.set j c) := by
  simp [u8s, List.map_set]

/-! ### Where the walk is to stand -/
/-- The walk doesn't look into this. -/
def Hold (p : Prop) : Prop := p
theorem Hold.go {p : Prop} (h : p) : Hold p := h
theorem stop_append {P : Program} {ops : Array Oper} {Q : Exit → Act → World → Prop} {d : Option Tmp} {as : Array Operand} {ts : Array TypeId} {ty : TypeId} {pos : String} {af : Array Edge} {g : Option (Nat × Bool)} {rest : List Oper} {a : Act} {w : World}
    (h : Hold (wpList P ops Q (⟨d, .call { callee := .builtin .append, args := as, argTypes := ts }, ty, pos, af, g⟩ :: rest) a w)) : wpList P ops Q (⟨d, .call { callee := .builtin .append, args := as, argTypes := ts }, ty, pos, af, g⟩ :: rest) a w := h
theorem stop_copy {P : Program} {ops : Array Oper} {Q : Exit → Act → World → Prop} {d : Option Tmp} {as : Array Operand} {ts : Array TypeId} {ty : TypeId} {pos : String} {af : Array Edge} {g : Option (Nat × Bool)} {rest : List Oper} {a : Act} {w : World}
    (h : Hold (wpList P ops Q (⟨d, .call { callee := .builtin .copy, args := as, argTypes := ts }, ty, pos, af, g⟩ :: rest) a w)) : wpList P ops Q (⟨d, .call { callee := .builtin .copy, args := as, argTypes := ts }, ty, pos, af, g⟩ :: rest) a w := h
theorem stop_clear {P : Program} {ops : Array Oper} {Q : Exit → Act → World → Prop} {d : Option Tmp} {as : Array Operand} {ts : Array TypeId} {ty : TypeId} {pos : String} {af : Array Edge} {g : Option (Nat × Bool)} {rest : List Oper} {a : Act} {w : World}
    (h : Hold (wpList P ops Q (⟨d, .call { callee := .builtin .clear, args := as, argTypes := ts }, ty, pos, af, g⟩ :: rest) a w)) : wpList P ops Q (⟨d, .call { callee := .builtin .clear, args := as, argTypes := ts }, ty, pos, af, g⟩ :: rest) a w := h
theorem stop_make {P : Program} {ops : Array Oper} {Q : Exit → Act → World → Prop} {d : Option Tmp} {x y : Operand} {t ty : TypeId} {pos : String} {af : Array Edge} {g : Option (Nat × Bool)} {rest : List Oper} {a : Act} {w : World}
    (h : Hold (wpList P ops Q (⟨d, .makeSlice t x y, ty, pos, af, g⟩ :: rest) a w)) : wpList P ops Q (⟨d, .makeSlice t x y, ty, pos, af, g⟩ :: rest) a w := h

/-! ### append -/
section
variable {P : Program} {w : World} {R : Snap} {L : Asrt} {t ty e : TypeId} {i : TypeInfo} {z : Value} {size bytes n m : Nat} {v u : Value} {xs news : List Value}

theorem row_owns {F : Nat → Prop} (H : (row e size v n xs).on (heapOf w) F) : w.ownsRow 0 e size v n xs ∧ (∀ k, v.ownBlock = some k ↔ F k) := by
  obtain ⟨hl, c⟩ := H
  rcases c with ⟨rfl, rfl, hf⟩ | ⟨g, cap, cur, rfl, h2, r1, r2, r3, r4, hf⟩
  · exact ⟨⟨hl, .inl ⟨rfl, rfl⟩⟩, fun k => ⟨fun h => by simp [Value.ownBlock] at h, fun h => absurd h (hf k)⟩⟩
  · exact ⟨⟨hl, .inr ⟨g, cap, cur, rfl, Nat.zero_le _, h2, r1, r2, r3, r4⟩⟩, fun k => by simp [Value.ownBlock, hf, eq_comm]⟩
theorem owns_row {base : Nat} (H : w.ownsRow base e size v n xs) : (row e size v n xs).on (heapOf w) (fun k => v.ownBlock = some k) := by
  refine ⟨H.1, ?_⟩
  rcases H.2 with ⟨rfl, rfl⟩ | ⟨g, cap, cur, rfl, hb, h2, r1, r2, r3, r4⟩
  · exact .inl ⟨rfl, rfl, fun k h => by simp [Value.ownBlock] at h⟩
  · exact .inr ⟨g, cap, cur, rfl, h2, r1, r2, r3, r4, fun k => by simp [Value.ownBlock, eq_comm]⟩
theorem run_append_holds (ht : P.underlying t = some (.slice e)) (hi : P.info? e = some i) (hz : i.zero = some z) (hsize : i.size = size) (hby : i.bytes = bytes) (hzs : z.cells.size = size) (hsz : 0 < size)
    (H : Holds w R (star (row e size v n xs) L)) (hr : Rd w.cell? size u m news) (h1 : ∀ x ∈ news, x.oneCell' = true) (h63 : n + m ≤ maxLen) (hbytes : (n + m) * bytes ≤ 140737488355328) :
    ∃ v' w', (Builtin.append_ #[t, t] ty #[v, u]).run P w = .ok v' w' ∧ Holds w' R (star (row e size v' (n + m) (xs ++ news)) L) := by
  obtain ⟨F, hF, k⟩ := H.upd
  obtain ⟨hown, hown'⟩ := row_owns hF
  have fin : ∀ v' w', w'.ownsRow 0 e size v' (n + m) (xs ++ news) → w.grownBy w' v.ownBlock → (v'.ownBlock = v.ownBlock ∨ v'.ownBlock = some w.heap.size) → Holds w' R (star (row e size v' (n + m) (xs ++ news)) L) := by
    intro v' w' ho hg hb
    refine k w' _ _ (owns_row ho) hg.os hg.tape hg.output (fun j hj hn => hg.block j hj (fun e => hn ((hown' j).1 e.symm))) (fun j hj => ?_)
    rcases hb with hb | hb
    · exact .inl ((hown' j).1 (hb ▸ hj))
    · rw [hb] at hj; injection hj with hj; exact .inr (Nat.le_of_eq hj)
  obtain ⟨a, cap, rfl, c1, c2, c3, c4, c5⟩ := hr
  cases a with
  | some ad =>
    obtain ⟨b, o, s⟩ := ad
    have hc : ∀ j x, news[j]? = some x → w.cell? ((⟨b, o, s⟩ : Addr).add j) = some x := fun j x hx => by
      obtain ⟨rfl, hx⟩ := c5 b o s rfl j x hx
      rw [add_plain]; exact hx
    obtain ⟨v', w', hrun, q1, q2, _, q4⟩ := run_append_own_at (P := P) w 0 t ty e i z size bytes ht hi hz hsize hby hzs hsz v n xs hown ⟨b, o, s⟩ m cap news c3 hc h1 h63 hbytes (Nat.zero_le _)
    exact ⟨v', w', hrun, fin v' w' q1 q2 q4⟩
  | none =>
    have : cap = 0 := c4 rfl
    subst this
    have : m = 0 := by omega
    subst this
    have : news = [] := List.eq_nil_of_length_eq_zero (by omega)
    subst this
    have hrun := run_append_owned_none (P := P) w 0 t ty e i size ht hi _ n xs hown
    exact ⟨v, w, hrun, fin v w (by simpa using hown) (World.grownBy.refl _ _) (.inl rfl)⟩

theorem Holds.ofGrown {w w' : World} (H : Holds w R L) {base n : Nat} {v : Value} {xs : List Value} (ho : w'.ownsRow base e size v n xs) (hg : w.grownBy w' none) (hb : w.heap.size ≤ base) : Holds w' R (star (row e size v n xs) L) := by
  refine H.fresh (A := row e size v n xs) (F' := fun k => v.ownBlock = some k) ⟨hg.os, hg.tape, hg.output, hg.size, fun k hk => hg.block k hk (by simp)⟩ (owns_row ho) (fun k hk => ?_)
  have := (ho.lt k hk).1; omega
theorem wp_append {o : Oper} {a : Act} {K : Act → World → Prop} {Q : Exit → Act → World → Prop} (s x : Operand) (ho : o.op = .call { callee := .builtin .append, args := #[s, x], argTypes := #[t, t] })
    (ht : P.underlying t = some (.slice e)) (hi : (P.info? e).map (fun i => (i.zero, i.size, i.bytes)) = some (some z, size, bytes)) (hzs : z.cells.size = size) (hsz : 0 < size)
    (hs : a.eval s = v) (hx : a.eval x = u) (H : Holds w R (star (row e size v n xs) L)) (hr : Rd w.cell? size u m news) (h1 : ∀ x ∈ news, x.oneCell' = true) (h63 : n + m ≤ maxLen) (hbytes : (n + m) * bytes ≤ 140737488355328)
    (hK : ∀ v' w', Holds w' R (star (row e size v' (n + m) (xs ++ news)) L) → K (a.put o.dst v') w') : o.wp P a w K Q := by
  obtain ⟨i, hi, hz, hsize, hby⟩ := info_parts hi
  obtain ⟨v', w', hrun, H'⟩ := run_append_holds (P := P) (ty := o.type) ht hi hz hsize hby hzs hsz H hr h1 h63 hbytes
  unfold Oper.wp execOp
  simp only [ho, resolve, invoke, builtin, Sem.run_bind, Sem.run_pure, Result.andThen_ok, List.map_toArray, List.map_cons, List.map_nil, hs, hx, hrun]
  exact hK v' w' H'
theorem wpList_append {ops : Array Oper} {rest : List Oper} {o : Oper} {a : Act} {Q : Exit → Act → World → Prop} (hgd : o.guard = none) (s x : Operand) (ho : o.op = .call { callee := .builtin .append, args := #[s, x], argTypes := #[t, t] })
    (ht : P.underlying t = some (.slice e)) (hi : (P.info? e).map (fun i => (i.zero, i.size, i.bytes)) = some (some z, size, bytes)) (hzs : z.cells.size = size) (hsz : 0 < size)
    (hs : a.eval s = v) (hx : a.eval x = u) (H : Holds w R (star (row e size v n xs) L)) (hr : Rd w.cell? size u m news) (h1 : ∀ x ∈ news, x.oneCell' = true) (h63 : n + m ≤ maxLen) (hbytes : (n + m) * bytes ≤ 140737488355328)
    (hK : ∀ v' w', Holds w' R (star (row e size v' (n + m) (xs ++ news)) L) → wpList P ops Q rest (a.put o.dst v') w') : wpList P ops Q (o :: rest) a w :=
  wpList_plain hgd fun _ hK' => wp_append s x ho ht hi hzs hsz hs hx H hr h1 h63 hbytes fun v' w' h => hK' _ _ (hK v' w' h)
theorem step_append {ops : Array Oper} {o : Oper} {a : Act} {K : Act → World → Prop} {Q : Exit → Act → World → Prop} {E : Prop} (hgd : o.guard = none) (s x : Operand) (ho : o.op = .call { callee := .builtin .append, args := #[s, x], argTypes := #[t, t] })
    (ht : P.underlying t = some (.slice e)) (hi : (P.info? e).map (fun i => (i.zero, i.size, i.bytes)) = some (some z, size, bytes)) (hzs : z.cells.size = size) (hsz : 0 < size)
    (hs : a.eval s = v) (hx : a.eval x = u) (H : Holds w R (star (row e size v n xs) L)) (hr : Rd w.cell? size u m news) (h1 : ∀ x ∈ news, x.oneCell' = true) (h63 : n + m ≤ maxLen) (hbytes : (n + m) * bytes ≤ 140737488355328)
    (hK : ∀ v' w', Holds w' R (star (row e size v' (n + m) (xs ++ news)) L) → K (a.put o.dst v') w') : if Region.wanted o (yielded ops a.tmps) = true then Oper.wp P o a w K Q else E := by
  rw [if_pos (by simp [Region.wanted, hgd])]
  exact wp_append s x ho ht hi hzs hsz hs hx H hr h1 h63 hbytes hK
end
end Sh
