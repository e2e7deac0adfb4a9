/- A message's bytes: the plain law: what is put is read back, and what is read is put back. -/
import Derived.Test.YtmogagcffebbaaaBag
import Derived.Test.YtmogagcffebbaaaPackEasy
import Derived.Test.YtmogagcffebbaaaCrcMath
set_option linter.unusedVariables false
set_option linter.unusedSimpArgs false
namespace Sh
open Go Go.RowKit Go.Proofs
attribute [local go_sem ↓] Go.wp_at_zero Go.wp_at_succ
set_option maxHeartbeats 1000000
set_option maxRecDepth 100000

abbrev PSt := List UInt8 × Bool
def pRaw (n : Nat) (s : PSt) : List UInt8 × PSt := (cutOut s.1 s.2 n, (cutRest s.1 s.2 n, !cutOk s.1 s.2 n))
def pNum (k : Nat) (s : PSt) : Nat × PSt := (valB (cutOut s.1 s.2 k), (cutRest s.1 s.2 k, !cutOk s.1 s.2 k))
def pText (s : PSt) : List UInt8 × PSt := pRaw (pNum 1 s).1 (pNum 1 s).2
def pMany {α : Type} (f : PSt → α × PSt) : Nat → PSt → List α × PSt
  | 0, s => ([], s)
  | n + 1, s => if s.2 = true then ([], s) else ((f s).1 :: (pMany f n (f s).2).1, (pMany f n (f s).2).2)
def tx (l : List UInt8) : List UInt8 := nb 1 (min l.length 255 : Nat) ++ l.take 255
theorem cut_false {l : List UInt8} {bad : Bool} {n : Nat} (h : (!cutOk l bad n) = false) : bad = false ∧ n ≤ l.length ∧ cutOut l bad n = l.take n ∧ cutRest l bad n = l.drop n := by
  have h1 : cutOk l bad n = true := by simpa using h
  have h2 := h1
  simp only [cutOk, Bool.and_eq_true, Bool.not_eq_true', decide_eq_true_eq] at h1
  exact ⟨h1.1, h1.2, by unfold cutOut; rw [h2, if_pos rfl], by unfold cutRest; rw [h2, if_pos rfl]⟩
theorem pRaw_ok {n : Nat} {s : PSt} (h : (pRaw n s).2.2 = false) : s.2 = false ∧ s.1 = (pRaw n s).1 ++ (pRaw n s).2.1 ∧ (pRaw n s).1.length = n := by
  obtain ⟨h1, h2, h3, h4⟩ := cut_false h
  refine ⟨h1, ?_, ?_⟩
  · show s.1 = cutOut s.1 s.2 n ++ cutRest s.1 s.2 n
    rw [h3, h4, List.take_append_drop]
  · show (cutOut s.1 s.2 n).length = n
    rw [h3, List.length_take]; omega
theorem pNum_ok {k : Nat} (hk : wid k = k) {s : PSt} (h : (pNum k s).2.2 = false) : s.2 = false ∧ s.1 = nb k (pNum k s).1 ++ (pNum k s).2.1 ∧ (pNum k s).1 < 256 ^ k := by
  obtain ⟨h1, h2, h3, h4⟩ := cut_false h
  have hl : (s.1.take k).length = k := by rw [List.length_take]; omega
  refine ⟨h1, ?_, ?_⟩
  · show s.1 = nb k (valB (cutOut s.1 s.2 k)) ++ cutRest s.1 s.2 k
    rw [h3, h4, nb_valB (by rw [hl, hk]), List.take_append_drop]
  · show valB (cutOut s.1 s.2 k) < 256 ^ k
    have := valB_lt (s.1.take k)
    rw [hl] at this
    rw [h3]; exact this
theorem tx_small {l : List UInt8} (h : l.length ≤ 255) : tx l = nb 1 l.length ++ l := by
  rw [tx, List.take_of_length_le h, show min l.length 255 = l.length by omega]
theorem pText_ok {s : PSt} (h : (pText s).2.2 = false) : s.2 = false ∧ s.1 = tx (pText s).1 ++ (pText s).2.1 ∧ (pText s).1.length ≤ 255 := by
  obtain ⟨h1, h2, h3⟩ := pRaw_ok h
  obtain ⟨h4, h5, h6⟩ := pNum_ok (k := 1) (by decide) h1
  have hl : (pText s).1.length = (pNum 1 s).1 := h3
  have hle : (pText s).1.length ≤ 255 := by rw [hl]; omega
  refine ⟨h4, ?_, hle⟩
  rw [tx_small hle, hl, List.append_assoc]
  have h7 : (pNum 1 s).2.1 = (pText s).1 ++ (pText s).2.1 := h2
  rw [← h7]; exact h5
theorem pMany_ok {α : Type} {f : PSt → α × PSt} {g : α → List UInt8} {Q : α → Prop} (hf : ∀ s, (f s).2.2 = false → s.2 = false ∧ s.1 = g (f s).1 ++ (f s).2.1 ∧ Q (f s).1) : ∀ (n : Nat) (s : PSt), (pMany f n s).2.2 = false → s.2 = false ∧ s.1 = (pMany f n s).1.flatMap g ++ (pMany f n s).2.1 ∧ (pMany f n s).1.length = n ∧ ∀ x ∈ (pMany f n s).1, Q x
  | 0, s, h => ⟨h, by simp [pMany], rfl, by simp [pMany]⟩
  | n + 1, s, h => by
    unfold pMany at h ⊢
    by_cases hb : s.2 = true
    · rw [if_pos hb] at h; rw [hb] at h; cases h
    · rw [if_neg hb] at h ⊢
      obtain ⟨h1, h2, h3, h4⟩ := pMany_ok hf n _ h
      obtain ⟨h5, h6, h7⟩ := hf s h1
      refine ⟨h5, ?_, by simp only [List.length_cons, h3], ?_⟩
      · rw [List.flatMap_cons, List.append_assoc, ← h2]; exact h6
      · intro x hx
        rcases List.mem_cons.1 hx with rfl | hx
        · exact h7
        · exact h4 x hx
theorem pNum_nb {k : Nat} (hk : wid k = k) {n : Int} (h0 : 0 ≤ n) (h : n < 256 ^ k) (r : List UInt8) : pNum k (nb k n ++ r, false) = (n.toNat, (r, false)) := by
  have hl : (nb k n).length = k := by rw [nb_length, hk]
  obtain ⟨e1, e2, e3⟩ := cut_yes (rest := nb k n ++ r) (n := k) (by rw [List.length_append, hl]; omega)
  unfold pNum
  simp only [e1, e2, e3]
  rw [List.take_left' hl, List.drop_left' hl]
  have := valB_nb (k := k) h0 (by rw [hk]; exact h)
  simp only [Bool.not_true]
  congr 1
  omega
theorem pRaw_app {l : List UInt8} (r : List UInt8) : pRaw l.length (l ++ r, false) = (l, (r, false)) := by
  obtain ⟨e1, e2, e3⟩ := cut_yes (rest := l ++ r) (n := l.length) (by simp)
  unfold pRaw
  simp only [e1, e2, e3]
  simp
theorem pText_tx {l : List UInt8} (h : l.length ≤ 255) (r : List UInt8) : pText (tx l ++ r, false) = (l, (r, false)) := by
  have h1 : pNum 1 (tx l ++ r, false) = (l.length, (l ++ r, false)) := by
    rw [tx_small h, List.append_assoc]
    have := pNum_nb (k := 1) (by decide) (n := (l.length : Int)) (by omega) (by show (l.length : Int) < 256; omega) (l ++ r)
    simpa using this
  unfold pText
  rw [h1]
  exact pRaw_app r
theorem pMany_app {α : Type} {f : PSt → α × PSt} {g : α → List UInt8} : ∀ (xs : List α) (r : List UInt8), (∀ x ∈ xs, ∀ r, f (g x ++ r, false) = (x, (r, false))) → pMany f xs.length (xs.flatMap g ++ r, false) = (xs, (r, false))
  | [], r, _ => rfl
  | x :: xs, r, h => by
    rw [List.length_cons, pMany, if_neg (by simp), List.flatMap_cons, List.append_assoc, h x List.mem_cons_self]
    simp only
    rw [pMany_app xs r fun y hy => h y (List.mem_cons_of_mem _ hy)]
/-! ### The message's body -/
def strB (s : ByteArray) : List UInt8 := s.data.toList
def txS (s : ByteArray) : List UInt8 := tx (strB s)
def bodyS (sign : Int) (m : Ms) : List UInt8 :=
  nb 1 sign ++ (nb 1 m.kind ++ (nb 2 m.from_ ++ (nb 2 m.to_ ++ (nb 4 m.ballot ++ (txS m.name ++ (nb 4 m.attempt ++ (nb 4 m.epoch ++ (nb 4 m.mark ++ (nb 2 m.size ++ (nb 1 m.what ++ (nb 1 (m.who.length : Int) ++ (m.who.flatMap (nb 4) ++ (nb 1 (m.names.length : Int) ++ (m.names.flatMap txS ++ (tx m.data ++ [])))))))))))))))
def bodyB (m : Ms) : List UInt8 := bodyS 77 m
def putM (m : Ms) : List UInt8 := sealB (bodyB m)
def q0 (b : List UInt8) := pNum 1 (b, false)
def q1 (b : List UInt8) := pNum 1 (q0 b).2
def q2 (b : List UInt8) := pNum 2 (q1 b).2
def q3 (b : List UInt8) := pNum 2 (q2 b).2
def q4 (b : List UInt8) := pNum 4 (q3 b).2
def q5 (b : List UInt8) := pText (q4 b).2
def q6 (b : List UInt8) := pNum 4 (q5 b).2
def q7 (b : List UInt8) := pNum 4 (q6 b).2
def q8 (b : List UInt8) := pNum 4 (q7 b).2
def q9 (b : List UInt8) := pNum 2 (q8 b).2
def q10 (b : List UInt8) := pNum 1 (q9 b).2
def q11 (b : List UInt8) := pNum 1 (q10 b).2
def q12 (b : List UInt8) := pMany (pNum 4) (q11 b).1 (q11 b).2
def q13 (b : List UInt8) := pNum 1 (q12 b).2
def q14 (b : List UInt8) := pMany pText (q13 b).1 (q13 b).2
def q15 (b : List UInt8) := pText (q14 b).2
def toInts (l : List Nat) : List Int := l.map fun n : Nat => (n : Int)
def toStrs (l : List (List UInt8)) : List ByteArray := l.map fun x => ⟨x.toArray⟩
def gotM (b : List UInt8) : Ms := ⟨(q1 b).1, (q2 b).1, (q3 b).1, (q4 b).1, ⟨(q5 b).1.toArray⟩, (q6 b).1, (q7 b).1, (q8 b).1, (q9 b).1, (q10 b).1, .slice none 0 0, .slice none 0 0, .slice none 0 0, toInts (q12 b).1, toStrs (q14 b).1, (q15 b).1⟩
def readOk (b : List UInt8) : Bool := decide ((q0 b).1 = 77) && !(q15 b).2.2 && decide ((q15 b).2.1 = []) && msgOk (gotM b)
theorem flat_ints : ∀ l : List Nat, (toInts l).flatMap (nb 4) = l.flatMap fun n : Nat => nb 4 (n : Int)
  | [] => rfl
  | x :: l => by
    have ih := flat_ints l
    simp only [toInts, List.map_cons, List.flatMap_cons] at *
    rw [ih]
theorem flat_strs : ∀ l : List (List UInt8), (toStrs l).flatMap txS = l.flatMap tx
  | [] => rfl
  | x :: l => by
    have ih := flat_strs l
    simp only [toStrs, List.map_cons, List.flatMap_cons] at *
    rw [ih]
    simp [txS, strB]
theorem parse_sound {b : List UInt8} (h1 : (q15 b).2.2 = false) (h2 : (q15 b).2.1 = []) : b = bodyS (q0 b).1 (gotM b) := by
  have a15 := pText_ok (s := (q14 b).2) h1
  have a14 := pMany_ok (f := pText) (g := tx) (Q := fun l => l.length ≤ 255) (fun s h => pText_ok h) (q13 b).1 (q13 b).2 a15.1
  have a13 := pNum_ok (k := 1) (by decide) (s := (q12 b).2) a14.1
  have a12 := pMany_ok (f := pNum 4) (g := fun n : Nat => nb 4 (n : Int)) (Q := fun _ => True) (fun s h => ⟨(pNum_ok (k := 4) (by decide) h).1, (pNum_ok (k := 4) (by decide) h).2.1, trivial⟩) (q11 b).1 (q11 b).2 a13.1
  have a11 := pNum_ok (k := 1) (by decide) (s := (q10 b).2) a12.1
  have a10 := pNum_ok (k := 1) (by decide) (s := (q9 b).2) a11.1
  have a9 := pNum_ok (k := 2) (by decide) (s := (q8 b).2) a10.1
  have a8 := pNum_ok (k := 4) (by decide) (s := (q7 b).2) a9.1
  have a7 := pNum_ok (k := 4) (by decide) (s := (q6 b).2) a8.1
  have a6 := pNum_ok (k := 4) (by decide) (s := (q5 b).2) a7.1
  have a5 := pText_ok (s := (q4 b).2) a6.1
  have a4 := pNum_ok (k := 4) (by decide) (s := (q3 b).2) a5.1
  have a3 := pNum_ok (k := 2) (by decide) (s := (q2 b).2) a4.1
  have a2 := pNum_ok (k := 2) (by decide) (s := (q1 b).2) a3.1
  have a1 := pNum_ok (k := 1) (by decide) (s := (q0 b).2) a2.1
  have a0 := pNum_ok (k := 1) (by decide) (s := (b, false)) a1.1
  have e0 : b = nb 1 (q0 b).1 ++ (q0 b).2.1 := a0.2.1
  have e1 : (q0 b).2.1 = nb 1 (q1 b).1 ++ (q1 b).2.1 := a1.2.1
  have e2 : (q1 b).2.1 = nb 2 (q2 b).1 ++ (q2 b).2.1 := a2.2.1
  have e3 : (q2 b).2.1 = nb 2 (q3 b).1 ++ (q3 b).2.1 := a3.2.1
  have e4 : (q3 b).2.1 = nb 4 (q4 b).1 ++ (q4 b).2.1 := a4.2.1
  have e5 : (q4 b).2.1 = tx (q5 b).1 ++ (q5 b).2.1 := a5.2.1
  have e6 : (q5 b).2.1 = nb 4 (q6 b).1 ++ (q6 b).2.1 := a6.2.1
  have e7 : (q6 b).2.1 = nb 4 (q7 b).1 ++ (q7 b).2.1 := a7.2.1
  have e8 : (q7 b).2.1 = nb 4 (q8 b).1 ++ (q8 b).2.1 := a8.2.1
  have e9 : (q8 b).2.1 = nb 2 (q9 b).1 ++ (q9 b).2.1 := a9.2.1
  have e10 : (q9 b).2.1 = nb 1 (q10 b).1 ++ (q10 b).2.1 := a10.2.1
  have e11 : (q10 b).2.1 = nb 1 (q11 b).1 ++ (q11 b).2.1 := a11.2.1
  have e12 : (q11 b).2.1 = ((q12 b).1.flatMap fun n : Nat => nb 4 (n : Int)) ++ (q12 b).2.1 := a12.2.1
  have l12 : (q12 b).1.length = (q11 b).1 := a12.2.2.1
  have e13 : (q12 b).2.1 = nb 1 (q13 b).1 ++ (q13 b).2.1 := a13.2.1
  have e14 : (q13 b).2.1 = (q14 b).1.flatMap tx ++ (q14 b).2.1 := a14.2.1
  have l14 : (q14 b).1.length = (q13 b).1 := a14.2.2.1
  have e15 : (q14 b).2.1 = tx (q15 b).1 ++ (q15 b).2.1 := a15.2.1
  refine e0.trans ?_
  rw [e1, e2, e3, e4, e5, e6, e7, e8, e9, e10, e11, e12, e13, e14, e15, h2]
  have n12 : (gotM b).who.length = (q11 b).1 := by show (toInts (q12 b).1).length = _; rw [toInts, List.length_map, l12]
  have n14 : (gotM b).names.length = (q13 b).1 := by show (toStrs (q14 b).1).length = _; rw [toStrs, List.length_map, l14]
  have f12 : (gotM b).who.flatMap (nb 4) = (q12 b).1.flatMap fun n : Nat => nb 4 (n : Int) := flat_ints _
  have f14 : (gotM b).names.flatMap txS = (q14 b).1.flatMap tx := flat_strs _
  unfold bodyS
  rw [n12, n14, f12, f14]
  rfl
theorem inAll_mem {hi : Int} {l : List Int} (h : inAll hi l = true) {x : Int} (hx : x ∈ l) : 0 ≤ x ∧ x ≤ hi := by
  have := List.all_eq_true.1 h x hx
  simp only [inOne, Bool.and_eq_true, decide_eq_true_eq] at this
  exact this
theorem nameOk_len {s : ByteArray} (h : nameOk s = true) : s.size ≤ 16 := by
  simp only [nameOk, nameL, decide_eq_true_eq] at h
  have := h.2.1
  simpa using this
theorem flatMap_congr' {α β : Type} {f g : α → List β} : ∀ {l : List α}, (∀ x ∈ l, f x = g x) → l.flatMap f = l.flatMap g
  | [], _ => rfl
  | x :: l, h => by rw [List.flatMap_cons, List.flatMap_cons, h x List.mem_cons_self, flatMap_congr' fun y hy => h y (List.mem_cons_of_mem _ hy)]
theorem step_num {α : Type} {a : α} {p : α × PSt} {k : Nat} {n : Int} {r : List UInt8} (h : p = (a, (nb k n ++ r, false))) (hk : wid k = k) (h0 : 0 ≤ n) (h1 : n < 256 ^ k) : pNum k p.2 = (n.toNat, (r, false)) := by
  rw [h]; exact pNum_nb hk h0 h1 r
theorem step_len {α : Type} {a : α} {p : α × PSt} {k : Nat} {n : Nat} {r : List UInt8} (h : p = (a, (nb k (n : Int) ++ r, false))) (hk : wid k = k) (h1 : (n : Int) < 256 ^ k) : pNum k p.2 = (n, (r, false)) := by
  rw [h]
  have := pNum_nb hk (by omega) h1 r
  simpa using this
theorem step_text {α : Type} {a : α} {p : α × PSt} {l r : List UInt8} (h : p = (a, (tx l ++ r, false))) (hl : l.length ≤ 255) : pText p.2 = (l, (r, false)) := by
  rw [h]; exact pText_tx hl r
theorem step_ints {α : Type} {a : α} {p : α × PSt} {l : List Int} {r : List UInt8} (h : p = (a, (l.flatMap (nb 4) ++ r, false))) (k6 : inAll 4294967295 l = true) : pMany (pNum 4) l.length p.2 = (l.map Int.toNat, (r, false)) := by
  rw [h]
  have h := pMany_app (f := pNum 4) (g := fun n : Nat => nb 4 (n : Int)) (l.map Int.toNat) r
  have e : (l.map Int.toNat).flatMap (fun n : Nat => nb 4 (n : Int)) = l.flatMap (nb 4) := by
    rw [List.flatMap_map]
    apply flatMap_congr'
    intro x hx
    have := inAll_mem k6 hx
    show nb 4 ((x.toNat : Nat) : Int) = nb 4 x
    rw [Int.toNat_of_nonneg this.1]
  rw [e, List.length_map] at h
  exact h (fun x hx r => by
    obtain ⟨y, hy, rfl⟩ := List.mem_map.1 hx
    have := inAll_mem k6 hy
    have := pNum_nb (k := 4) (by decide) (n := ((y.toNat : Nat) : Int)) (by omega) (by show ((y.toNat : Nat) : Int) < 4294967296; omega) r
    rwa [Int.toNat_natCast] at this)
theorem step_strs {α : Type} {a : α} {p : α × PSt} {l : List ByteArray} {r : List UInt8} (h : p = (a, (l.flatMap txS ++ r, false))) (k10 : l.all nameOk = true) : pMany pText l.length p.2 = (l.map strB, (r, false)) := by
  rw [h]
  have h := pMany_app (f := pText) (g := tx) (l.map strB) r
  have e : (l.map strB).flatMap tx = l.flatMap txS := by rw [List.flatMap_map]; rfl
  rw [e, List.length_map] at h
  exact h (fun x hx r => by
    obtain ⟨y, hy, rfl⟩ := List.mem_map.1 hx
    have := nameOk_len (List.all_eq_true.1 k10 y hy)
    exact pText_tx (by simp [strB]; omega) r)
theorem strB_len (s : ByteArray) : (strB s).length = s.size := by simp [strB]
theorem parse_back {m : Ms} (h : msgOk m = true) : (q0 (bodyB m)).1 = 77 ∧ (q15 (bodyB m)).2 = ([], false) ∧ (gotM (bodyB m)).con = m.con := by
  simp only [msgOk, Bool.and_eq_true, decide_eq_true_eq, Bool.or_eq_true] at h
  obtain ⟨⟨⟨⟨⟨⟨⟨⟨⟨⟨k1, k2⟩, k3⟩, k4⟩, k5⟩, k6⟩, k7⟩, k8⟩, k9⟩, k10⟩, k11⟩ := h
  have f1 := inAll_mem k4 (x := m.from_) (by simp)
  have f2 := inAll_mem k4 (x := m.to_) (by simp)
  have f3 := inAll_mem k5 (x := m.ballot) (by simp)
  have f4 := inAll_mem k5 (x := m.attempt) (by simp)
  have f5 := inAll_mem k5 (x := m.epoch) (by simp)
  have f6 := inAll_mem k5 (x := m.mark) (by simp)
  have f7 := inAll_mem k7 (x := m.size) (by simp)
  have f8 := inAll_mem k7 (x := (m.data.length : Int)) (by simp)
  have f9 := inAll_mem k8 (x := m.what) (by simp)
  have f10 := inAll_mem k8 (x := (m.who.length : Int)) (by simp)
  have hnm : (strB m.name).length ≤ 255 := by
    rw [strB_len]
    rcases k11 with k | k
    · omega
    · have := nameOk_len k; omega
  obtain ⟨b, hb⟩ : ∃ b, b = bodyB m := ⟨_, rfl⟩
  rw [← hb]
  unfold bodyB bodyS at hb
  have p0 : q0 b = _ := step_num (p := ((), (b, false))) (congrArg (fun x => ((), (x, false))) hb) (by decide) (by omega) (by show (77 : Int) < 256; omega)
  have p1 : q1 b = _ := step_num p0 (by decide) (by omega) (by show m.kind < 256; omega)
  have p2 : q2 b = _ := step_num p1 (by decide) (by omega) (by show m.from_ < 65536; omega)
  have p3 : q3 b = _ := step_num p2 (by decide) (by omega) (by show m.to_ < 65536; omega)
  have p4 : q4 b = _ := step_num p3 (by decide) (by omega) (by show m.ballot < 4294967296; omega)
  have p5 : q5 b = _ := step_text p4 hnm
  have p6 : q6 b = _ := step_num p5 (by decide) (by omega) (by show m.attempt < 4294967296; omega)
  have p7 : q7 b = _ := step_num p6 (by decide) (by omega) (by show m.epoch < 4294967296; omega)
  have p8 : q8 b = _ := step_num p7 (by decide) (by omega) (by show m.mark < 4294967296; omega)
  have p9 : q9 b = _ := step_num p8 (by decide) (by omega) (by show m.size < 65536; omega)
  have p10 : q10 b = _ := step_num p9 (by decide) (by omega) (by show m.what < 256; omega)
  have p11 : q11 b = _ := step_len p10 (by decide) (by show (m.who.length : Int) < 256; omega)
  have p12 : q12 b = _ := (show q12 b = pMany (pNum 4) m.who.length (q11 b).2 by unfold q12; rw [show (q11 b).1 = m.who.length by rw [p11]]).trans (step_ints p11 k6)
  have p13 : q13 b = _ := step_len p12 (by decide) (by show (m.names.length : Int) < 256; omega)
  have p14 : q14 b = _ := (show q14 b = pMany pText m.names.length (q13 b).2 by unfold q14; rw [show (q13 b).1 = m.names.length by rw [p13]]).trans (step_strs p13 k10)
  have p15 : q15 b = _ := step_text p14 (by omega)
  refine ⟨by rw [p0]; rfl, by rw [p15], ?_⟩
  have i0 : ∀ {x : Int}, 0 ≤ x → ((x.toNat : Nat) : Int) = x := fun h => Int.toNat_of_nonneg h
  have iw : toInts (m.who.map Int.toNat) = m.who := by
    rw [toInts, List.map_map]
    conv => rhs; rw [← List.map_id m.who]
    apply List.map_congr_left
    intro x hx
    exact i0 (inAll_mem k6 hx).1
  have inn : toStrs (m.names.map strB) = m.names := by
    rw [toStrs, List.map_map]
    conv => rhs; rw [← List.map_id m.names]
    apply List.map_congr_left
    intro x hx
    simp [strB]
  simp only [gotM, Ms.con, p1, p2, p3, p4, p5, p6, p7, p8, p9, p10, p12, p14, p15, iw, inn, i0 f1.1, i0 f2.1, i0 f3.1, i0 f4.1, i0 f5.1, i0 f6.1, i0 f7.1, i0 f9.1, i0 (show (0 : Int) ≤ m.kind by omega)]
  simp [strB]
theorem putM_con {m x : Ms} (h : m.con = x.con) : putM m = putM x := by
  simp only [Ms.con, Prod.mk.injEq, List.cons.injEq, and_true] at h
  obtain ⟨⟨h1, h2, h3, h4, h5, h6, h7, h8, h9⟩, h10, h11, h12, h13⟩ := h
  simp only [putM, bodyB, bodyS, h1, h2, h3, h4, h5, h6, h7, h8, h9, h10, h11, h12, h13]
theorem sealB_len (l : List UInt8) : (sealB l).length = l.length + 4 := by simp [sealB, fourB]
theorem sealB_take (l : List UInt8) : (sealB l).take ((sealB l).length - 4) = l := by
  rw [sealB_len, Nat.add_sub_cancel, sealB, List.take_append_of_le_length (Nat.le_refl _), List.take_length]
/-- What the program asks of what it read, and what the document asks, are one. -/
theorem got_same {x : List UInt8} (hg : goodB x = true) : (msgOk (gotM (x.take (x.length - 4))) && decide (putM (gotM (x.take (x.length - 4))) = x)) = readOk (x.take (x.length - 4)) := by
  have hx : x = sealB (x.take (x.length - 4)) := by simp only [goodB, decide_eq_true_eq] at hg; exact hg.2
  generalize x.take (x.length - 4) = b at hx
  subst hx
  rw [Bool.eq_iff_iff]
  simp only [readOk, Bool.and_eq_true, decide_eq_true_eq, Bool.not_eq_true']
  constructor
  · rintro ⟨h1, h2⟩
    have e : bodyB (gotM b) = b := by
      have := congrArg (fun l => l.take (l.length - 4)) h2
      simpa only [putM, sealB_take] using this
    have h3 := parse_back h1
    rw [e] at h3
    exact ⟨⟨⟨h3.1, by rw [h3.2.1]⟩, by rw [h3.2.1]⟩, h1⟩
  · rintro ⟨⟨⟨h1, h2⟩, h3⟩, h4⟩
    refine ⟨h4, ?_⟩
    have e := parse_sound h2 h3
    rw [h1] at e
    show sealB (bodyS 77 (gotM b)) = sealB b
    exact congrArg sealB e.symm
end Sh
