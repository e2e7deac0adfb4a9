/- MsgMath ConvStr Crc: joined texts, each with its own sentence below. -/
import Derived.Test.YtmogagcffebbaaaJd4
import Derived.Laws.IdiomStrings
import Derived.Test.YtmogagcffebbaaaJd2
/- A message's bytes: the plain law: what is put is read back, and what is read is put back. -/
set_option linter.unusedVariables false
set_option linter.unusedSimpArgs false
namespace Sh
open Go Go.RowKit Go.Proofs
attribute [local go_sem ↓] Go.wp_at_zero Go.wp_at_succ
set_option maxHeartbeats 1000000
set_option maxRecDepth 100000

abbrev PSt := List UInt8 × Bool
def pRaw (n : Nat) (s : PSt) : List UInt8 × PSt := (cutOut s.1 s.2 n, (cutRest s.1 s.2 n, !cutOk s.1 s.2 n))
def pNum (k : Nat) (s : PSt) : Nat × PSt := (valB (cutOut s.1 s.2 k), (cutRest s.1 s.2 k, !cutOk s.1 s.2 k))
def pText (s : PSt) : List UInt8 × PSt := pRaw (pNum 1 s).1 (pNum 1 s).2
def pMany {α : Type} (f : PSt → α × PSt) : Nat → PSt → List α × PSt
  | 0, s => ([], s)
  | n + 1, s => if s.2 = true then ([], s) else ((f s).1 :: (pMany f n (f s).2).1, (pMany f n (f s).2).2)
def tx (l : List UInt8) : List UInt8 := nb 1 (min l.length 255 : Nat) ++ l.take 255
theorem cut_false {l : List UInt8} {bad : Bool} {n : Nat} (h : (!cutOk l bad n) = false) : bad = false ∧ n ≤ l.length ∧ cutOut l bad n = l.take n ∧ cutRest l bad n = l.drop n := by
  have h1 : cutOk l bad n = true := by simpa using h
  have h2 := h1
  simp only [cutOk, Bool.and_eq_true, Bool.not_eq_true', decide_eq_true_eq] at h1
  exact ⟨h1.1, h1.2, by unfold cutOut; rw [h2, if_pos rfl], by unfold cutRest; rw [h2, if_pos rfl]⟩
theorem pRaw_ok {n : Nat} {s : PSt} (h : (pRaw n s).2.2 = false) : s.2 = false ∧ s.1 = (pRaw n s).1 ++ (pRaw n s).2.1 ∧ (pRaw n s).1.length = n := by
  obtain ⟨h1, h2, h3, h4⟩ := cut_false h
  refine ⟨h1, ?_, ?_⟩
  · show s.1 = cutOut s.1 s.2 n ++ cutRest s.1 s.2 n
    rw [h3, h4, List.take_append_drop]
  · show (cutOut s.1 s.2 n).length = n
    rw [h3, List.length_take]; omega
theorem pNum_ok {k : Nat} (hk : wid k = k) {s : PSt} (h : (pNum k s).2.2 = false) : s.2 = false ∧ s.1 = nb k (pNum k s).1 ++ (pNum k s).2.1 ∧ (pNum k s).1 < 256 ^ k := by
  obtain ⟨h1, h2, h3, h4⟩ := cut_false h
  have hl : (s.1.take k).length = k := by rw [List.length_take]; omega
  refine ⟨h1, ?_, ?_⟩
  · show s.1 = nb k (valB (cutOut s.1 s.2 k)) ++ cutRest s.1 s.2 k
    rw [h3, h4, nb_valB (by rw [hl, hk]), List.take_append_drop]
  · show valB (cutOut s.1 s.2 k) < 256 ^ k
    have := valB_lt (s.1.take k)
    rw [hl] at this
    rw [h3]; exact this
theorem tx_small {l : List UInt8} (h : l.length ≤ 255) : tx l = nb 1 l.length ++ l := by
  rw [tx, List.take_of_length_le h, show min l.length 255 = l.length by omega]
theorem pText_ok {s : PSt} (h : (pText s).2.2 = false) : s.2 = false ∧ s.1 = tx (pText s).1 ++ (pText s).2.1 ∧ (pText s).1.length ≤ 255 := by
  obtain ⟨h1, h2, h3⟩ := pRaw_ok h
  obtain ⟨h4, h5, h6⟩ := pNum_ok (k := 1) (by decide) h1
  have hl : (pText s).1.length = (pNum 1 s).1 := h3
  have hle : (pText s).1.length ≤ 255 := by rw [hl]; omega
  refine ⟨h4, ?_, hle⟩
  rw [tx_small hle, hl, List.append_assoc]
  have h7 : (pNum 1 s).2.1 = (pText s).1 ++ (pText s).2.1 := h2
  rw [← h7]; exact h5
theorem pMany_ok {α : Type} {f : PSt → α × PSt} {g : α → List UInt8} {Q : α → Prop} (hf : ∀ s, (f s).2.2 = false → s.2 = false ∧ s.1 = g (f s).1 ++ (f s).2.1 ∧ Q (f s).1) : ∀ (n : Nat) (s : PSt), (pMany f n s).2.2 = false → s.2 = false ∧ s.1 = (pMany f n s).1.flatMap g ++ (pMany f n s).2.1 ∧ (pMany f n s).1.length = n ∧ ∀ x ∈ (pMany f n s).1, Q x
  | 0, s, h => ⟨h, by simp [pMany], rfl, by simp [pMany]⟩
  | n + 1, s, h => by
    unfold pMany at h ⊢
    by_cases hb : s.2 = true
    · rw [if_pos hb] at h; rw [hb] at h; cases h
    · rw [if_neg hb] at h ⊢
      obtain ⟨h1, h2, h3, h4⟩ := pMany_ok hf n _ h
      obtain ⟨h5, h6, h7⟩ := hf s h1
      refine ⟨h5, ?_, by simp only [List.length_cons, h3], ?_⟩
      · rw [List.flatMap_cons, List.append_assoc, ← h2]; exact h6
      · intro x hx
        rcases List.mem_cons.1 hx with rfl | hx
        · exact h7
        · exact h4 x hx
theorem pNum_nb {k : Nat} (hk : wid k = k) {n : Int} (h0 : 0 ≤ n) (h : n < 256 ^ k) (r : List UInt8) : pNum k (nb k n ++ r, false) = (n.toNat, (r, false)) := by
  have hl : (nb k n).length = k := by rw [nb_length, hk]
  obtain ⟨e1, e2, e3⟩ := cut_yes (rest := nb k n ++ r) (n := k) (by rw [List.length_append, hl]; omega)
  unfold pNum
  simp only [e1, e2, e3]
  rw [List.take_left' hl, List.drop_left' hl]
  have := valB_nb (k := k) h0 (by rw [hk]; exact h)
  simp only [Bool.not_true]
  congr 1
  omega
theorem pRaw_app {l : List UInt8} (r : List UInt8) : pRaw l.length (l ++ r, false) = (l, (r, false)) := by
  obtain ⟨e1, e2, e3⟩ := cut_yes (rest := l ++ r) (n := l.length) (by simp)
  unfold pRaw
  simp only [e1, e2, e3]
  simp
theorem pText_tx {l : List UInt8} (h : l.length ≤ 255) (r : List UInt8) : pText (tx l ++ r, false) = (l, (r, false)) := by
  have h1 : pNum 1 (tx l ++ r, false) = (l.length, (l ++ r, false)) := by
    rw [tx_small h, List.append_assoc]
    have := pNum_nb (k := 1) (by decide) (n := (l.length : Int)) (by omega) (by show (l.length : Int) < 256; omega) (l ++ r)
    simpa using this
  unfold pText
  rw [h1]
  exact pRaw_app r
theorem pMany_app {α : Type} {f : PSt → α × PSt} {g : α → List UInt8} : ∀ (xs : List α) (r : List UInt8), (∀ x ∈ xs, ∀ r, f (g x ++ r, false) = (x, (r, false))) → pMany f xs.length (xs.flatMap g ++ r, false) = (xs, (r, false))
  | [], r, _ => rfl
  | x :: xs, r, h => by
    rw [List.length_cons, pMany, if_neg (by simp), List.flatMap_cons, List.append_assoc, h x List.mem_cons_self]
    simp only
    rw [pMany_app xs r fun y hy => h y (List.mem_cons_of_mem _ hy)]
/-! ### The message's body -/
def strB (s : ByteArray) : List UInt8 := s.data.toList
def txS (s : ByteArray) : List UInt8 := tx (strB s)
def bodyS (sign : Int) (m : Ms) : List UInt8 :=
  nb 1 sign ++ (nb 1 m.kind ++ (nb 2 m.from_ ++ (nb 2 m.to_ ++ (nb 4 m.ballot ++ (txS m.name ++ (nb 4 m.attempt ++ (nb 4 m.epoch ++ (nb 4 m.mark ++ (nb 2 m.size ++ (nb 1 m.what ++ (nb 1 (m.who.length : Int) ++ (m.who.flatMap (nb 4) ++ (nb 1 (m.names.length : Int) ++ (m.names.flatMap txS ++ (tx m.data ++ [])))))))))))))))
def bodyB (m : Ms) : List UInt8 := bodyS 77 m
def putM (m : Ms) : List UInt8 := sealB (bodyB m)
def q0 (b : List UInt8) := pNum 1 (b, false)
def q1 (b : List UInt8) := pNum 1 (q0 b).2
def q2 (b : List UInt8) := pNum 2 (q1 b).2
def q3 (b : List UInt8) := pNum 2 (q2 b).2
def q4 (b : List UInt8) := pNum 4 (q3 b).2
def q5 (b : List UInt8) := pText (q4 b).2
def q6 (b : List UInt8) := pNum 4 (q5 b).2
def q7 (b : List UInt8) := pNum 4 (q6 b).2
def q8 (b : List UInt8) := pNum 4 (q7 b).2
def q9 (b : List UInt8) := pNum 2 (q8 b).2
def q10 (b : List UInt8) := pNum 1 (q9 b).2
def q11 (b : List UInt8) := pNum 1 (q10 b).2
def q12 (b : List UInt8) := pMany (pNum 4) (q11 b).1 (q11 b).2
def q13 (b : List UInt8) := pNum 1 (q12 b).2
def q14 (b : List UInt8) := pMany pText (q13 b).1 (q13 b).2
def q15 (b : List UInt8) := pText (q14 b).2
def toInts (l : List Nat) : List Int := l.map fun n : Nat => (n : Int)
def toStrs (l : List (List UInt8)) : List ByteArray := l.map fun x => ⟨x.toArray⟩
def gotM (b : List UInt8) : Ms := ⟨(q1 b).1, (q2 b).1, (q3 b).1, (q4 b).1, ⟨(q5 b).1.toArray⟩, (q6 b).1, (q7 b).1, (q8 b).1, (q9 b).1, (q10 b).1, .slice none 0 0, .slice none 0 0, .slice none 0 0, toInts (q12 b).1, toStrs (q14 b).1, (q15 b).1⟩
def readOk (b : List UInt8) : Bool := decide ((q0 b).1 = 77) && !(q15 b).2.2 && decide ((q15 b).2.1 = []) && msgOk (gotM b)
theorem flat_ints : ∀ l : List Nat, (toInts l).flatMap (nb 4) = l.flatMap fun n : Nat => nb 4 (n : Int)
  | [] => rfl
  | x :: l => by
    have ih := flat_ints l
    simp only [toInts, List.map_cons, List.flatMap_cons] at *
    rw [ih]
theorem flat_strs : ∀ l : List (List UInt8), (toStrs l).flatMap txS = l.flatMap tx
  | [] => rfl
  | x :: l => by
    have ih := flat_strs l
    simp only [toStrs, List.map_cons, List.flatMap_cons] at *
    rw [ih]
    simp [txS, strB]
theorem parse_sound {b : List UInt8} (h1 : (q15 b).2.2 = false) (h2 : (q15 b).2.1 = []) : b = bodyS (q0 b).1 (gotM b) := by
  have a15 := pText_ok (s := (q14 b).2) h1
  have a14 := pMany_ok (f := pText) (g := tx) (Q := fun l => l.length ≤ 255) (fun s h => pText_ok h) (q13 b).1 (q13 b).2 a15.1
  have a13 := pNum_ok (k := 1) (by decide) (s := (q12 b).2) a14.1
  have a12 := pMany_ok (f := pNum 4) (g := fun n : Nat => nb 4 (n : Int)) (Q := fun _ => True) (fun s h => ⟨(pNum_ok (k := 4) (by decide) h).1, (pNum_ok (k := 4) (by decide) h).2.1, trivial⟩) (q11 b).1 (q11 b).2 a13.1
  have a11 := pNum_ok (k := 1) (by decide) (s := (q10 b).2) a12.1
  have a10 := pNum_ok (k := 1) (by decide) (s := (q9 b).2) a11.1
  have a9 := pNum_ok (k := 2) (by decide) (s := (q8 b).2) a10.1
  have a8 := pNum_ok (k := 4) (by decide) (s := (q7 b).2) a9.1
  have a7 := pNum_ok (k := 4) (by decide) (s := (q6 b).2) a8.1
  have a6 := pNum_ok (k := 4) (by decide) (s := (q5 b).2) a7.1
  have a5 := pText_ok (s := (q4 b).2) a6.1
  have a4 := pNum_ok (k := 4) (by decide) (s := (q3 b).2) a5.1
  have a3 := pNum_ok (k := 2) (by decide) (s := (q2 b).2) a4.1
  have a2 := pNum_ok (k := 2) (by decide) (s := (q1 b).2) a3.1
  have a1 := pNum_ok (k := 1) (by decide) (s := (q0 b).2) a2.1
  have a0 := pNum_ok (k := 1) (by decide) (s := (b, false)) a1.1
  have e0 : b = nb 1 (q0 b).1 ++ (q0 b).2.1 := a0.2.1
  have e1 : (q0 b).2.1 = nb 1 (q1 b).1 ++ (q1 b).2.1 := a1.2.1
  have e2 : (q1 b).2.1 = nb 2 (q2 b).1 ++ (q2 b).2.1 := a2.2.1
  have e3 : (q2 b).2.1 = nb 2 (q3 b).1 ++ (q3 b).2.1 := a3.2.1
  have e4 : (q3 b).2.1 = nb 4 (q4 b).1 ++ (q4 b).2.1 := a4.2.1
  have e5 : (q4 b).2.1 = tx (q5 b).1 ++ (q5 b).2.1 := a5.2.1
  have e6 : (q5 b).2.1 = nb 4 (q6 b).1 ++ (q6 b).2.1 := a6.2.1
  have e7 : (q6 b).2.1 = nb 4 (q7 b).1 ++ (q7 b).2.1 := a7.2.1
  have e8 : (q7 b).2.1 = nb 4 (q8 b).1 ++ (q8 b).2.1 := a8.2.1
  have e9 : (q8 b).2.1 = nb 2 (q9 b).1 ++ (q9 b).2.1 := a9.2.1
  have e10 : (q9 b).2.1 = nb 1 (q10 b).1 ++ (q10 b).2.1 := a10.2.1
  have e11 : (q10 b).2.1 = nb 1 (q11 b).1 ++ (q11 b).2.1 := a11.2.1
  have e12 : (q11 b).2.1 = ((q12 b).1.flatMap fun n : Nat => nb 4 (n : Int)) ++ (q12 b).2.1 := a12.2.1
  have l12 : (q12 b).1.length = (q11 b).1 := a12.2.2.1
  have e13 : (q12 b).2.1 = nb 1 (q13 b).1 ++ (q13 b).2.1 := a13.2.1
  have e14 : (q13 b).2.1 = (q14 b).1.flatMap tx ++ (q14 b).2.1 := a14.2.1
  have l14 : (q14 b).1.length = (q13 b).1 := a14.2.2.1
  have e15 : (q14 b).2.1 = tx (q15 b).1 ++ (q15 b).2.1 := a15.2.1
  refine e0.trans ?_
  rw [e1, e2, e3, e4, e5, e6, e7, e8, e9, e10, e11, e12, e13, e14, e15, h2]
  have n12 : (gotM b).who.length = (q11 b).1 := by show (toInts (q12 b).1).length = _; rw [toInts, List.length_map, l12]
  have n14 : (gotM b).names.length = (q13 b).1 := by show (toStrs (q14 b).1).length = _; rw [toStrs, List.length_map, l14]
  have f12 : (gotM b).who.flatMap (nb 4) = (q12 b).1.flatMap fun n : Nat => nb 4 (n : Int) := flat_ints _
  have f14 : (gotM b).names.flatMap txS = (q14 b).1.flatMap tx := flat_strs _
  unfold bodyS
  rw [n12, n14, f12, f14]
  rfl
theorem inAll_mem {hi : Int} {l : List Int} (h : inAll hi l = true) {x : Int} (hx : x ∈ l) : 0 ≤ x ∧ x ≤ hi := by
  have := List.all_eq_true.1 h x hx
  simp only [inOne, Bool.and_eq_true, decide_eq_true_eq] at this
  exact this
theorem nameOk_len {s : ByteArray} (h : nameOk s = true) : s.size ≤ 16 := by
  simp only [nameOk, nameL, decide_eq_true_eq] at h
  have := h.2.1
  simpa using this
theorem flatMap_congr' {α β : Type} {f g : α → List β} : ∀ {l : List α}, (∀ x ∈ l, f x = g x) → l.flatMap f = l.flatMap g
  | [], _ => rfl
  | x :: l, h => by rw [List.flatMap_cons, List.flatMap_cons, h x List.mem_cons_self, flatMap_congr' fun y hy => h y (List.mem_cons_of_mem _ hy)]
theorem step_num {α : Type} {a : α} {p : α × PSt} {k : Nat} {n : Int} {r : List UInt8} (h : p = (a, (nb k n ++ r, false))) (hk : wid k = k) (h0 : 0 ≤ n) (h1 : n < 256 ^ k) : pNum k p.2 = (n.toNat, (r, false)) := by
  rw [h]; exact pNum_nb hk h0 h1 r
theorem step_len {α : Type} {a : α} {p : α × PSt} {k : Nat} {n : Nat} {r : List UInt8} (h : p = (a, (nb k (n : Int) ++ r, false))) (hk : wid k = k) (h1 : (n : Int) < 256 ^ k) : pNum k p.2 = (n, (r, false)) := by
  rw [h]
  have := pNum_nb hk (by omega) h1 r
  simpa using this
theorem step_text {α : Type} {a : α} {p : α × PSt} {l r : List UInt8} (h : p = (a, (tx l ++ r, false))) (hl : l.length ≤ 255) : pText p.2 = (l, (r, false)) := by
  rw [h]; exact pText_tx hl r
theorem step_ints {α : Type} {a : α} {p : α × PSt} {l : List Int} {r : List UInt8} (h : p = (a, (l.flatMap (nb 4) ++ r, false))) (k6 : inAll 4294967295 l = true) : pMany (pNum 4) l.length p.2 = (l.map Int.toNat, (r, false)) := by
  rw [h]
  have h := pMany_app (f := pNum 4) (g := fun n : Nat => nb 4 (n : Int)) (l.map Int.toNat) r
  have e : (l.map Int.toNat).flatMap (fun n : Nat => nb 4 (n : Int)) = l.flatMap (nb 4) := by
    rw [List.flatMap_map]
    apply flatMap_congr'
    intro x hx
    have := inAll_mem k6 hx
    show nb 4 ((x.toNat : Nat) : Int) = nb 4 x
    rw [Int.toNat_of_nonneg this.1]
  rw [e, List.length_map] at h
  exact h (fun x hx r => by
    obtain ⟨y, hy, rfl⟩ := List.mem_map.1 hx
    have := inAll_mem k6 hy
    have := pNum_nb (k := 4) (by decide) (n := ((y.toNat : Nat) : Int)) (by omega) (by show ((y.toNat : Nat) : Int) < 4294967296; omega) r
    rwa [Int.toNat_natCast] at this)
theorem step_strs {α : Type} {a : α} {p : α × PSt} {l : List ByteArray} {r : List UInt8} (h : p = (a, (l.flatMap txS ++ r, false))) (k10 : l.all nameOk = true) : pMany pText l.length p.2 = (l.map strB, (r, false)) := by
  rw [h]
  have h := pMany_app (f := pText) (g := tx) (l.map strB) r
  have e : (l.map strB).flatMap tx = l.flatMap txS := by rw [List.flatMap_map]; rfl
  rw [e, List.length_map] at h
  exact h (fun x hx r => by
    obtain ⟨y, hy, rfl⟩ := List.mem_map.1 hx
    have := nameOk_len (List.all_eq_true.1 k10 y hy)
    exact pText_tx (by simp [strB]; omega) r)
theorem strB_len (s : ByteArray) : (strB s).length = s.size := by simp [strB]
theorem parse_back {m : Ms} (h : msgOk m = true) : (q0 (bodyB m)).1 = 77 ∧ (q15 (bodyB m)).2 = ([], false) ∧ (gotM (bodyB m)).con = m.con := by
  simp only [msgOk, Bool.and_eq_true, decide_eq_true_eq, Bool.or_eq_true] at h
  obtain ⟨⟨⟨⟨⟨⟨⟨⟨⟨⟨k1, k2⟩, k3⟩, k4⟩, k5⟩, k6⟩, k7⟩, k8⟩, k9⟩, k10⟩, k11⟩ := h
  have f1 := inAll_mem k4 (x := m.from_) (by simp)
  have f2 := inAll_mem k4 (x := m.to_) (by simp)
  have f3 := inAll_mem k5 (x := m.ballot) (by simp)
  have f4 := inAll_mem k5 (x := m.attempt) (by simp)
  have f5 := inAll_mem k5 (x := m.epoch) (by simp)
  have f6 := inAll_mem k5 (x := m.mark) (by simp)
  have f7 := inAll_mem k7 (x := m.size) (by simp)
  have f8 := inAll_mem k7 (x := (m.data.length : Int)) (by simp)
  have f9 := inAll_mem k8 (x := m.what) (by simp)
  have f10 := inAll_mem k8 (x := (m.who.length : Int)) (by simp)
  have hnm : (strB m.name).length ≤ 255 := by
    rw [strB_len]
    rcases k11 with k | k
    · omega
    · have := nameOk_len k; omega
  obtain ⟨b, hb⟩ : ∃ b, b = bodyB m := ⟨_, rfl⟩
  rw [← hb]
  unfold bodyB bodyS at hb
  have p0 : q0 b = _ := step_num (p := ((), (b, false))) (congrArg (fun x => ((), (x, false))) hb) (by decide) (by omega) (by show (77 : Int) < 256; omega)
  have p1 : q1 b = _ := step_num p0 (by decide) (by omega) (by show m.kind < 256; omega)
  have p2 : q2 b = _ := step_num p1 (by decide) (by omega) (by show m.from_ < 65536; omega)
  have p3 : q3 b = _ := step_num p2 (by decide) (by omega) (by show m.to_ < 65536; omega)
  have p4 : q4 b = _ := step_num p3 (by decide) (by omega) (by show m.ballot < 4294967296; omega)
  have p5 : q5 b = _ := step_text p4 hnm
  have p6 : q6 b = _ := step_num p5 (by decide) (by omega) (by show m.attempt < 4294967296; omega)
  have p7 : q7 b = _ := step_num p6 (by decide) (by omega) (by show m.epoch < 4294967296; omega)
  have p8 : q8 b = _ := step_num p7 (by decide) (by omega) (by show m.mark < 4294967296; omega)
  have p9 : q9 b = _ := step_num p8 (by decide) (by omega) (by show m.size < 65536; omega)
  have p10 : q10 b = _ := step_num p9 (by decide) (by omega) (by show m.what < 256; omega)
  have p11 : q11 b = _ := step_len p10 (by decide) (by show (m.who.length : Int) < 256; omega)
  have p12 : q12 b = _ := (show q12 b = pMany (pNum 4) m.who.length (q11 b).2 by unfold q12; rw [show (q11 b).1 = m.who.length by rw [p11]]).trans (step_ints p11 k6)
  have p13 : q13 b = _ := step_len p12 (by decide) (by show (m.names.length : Int) < 256; omega)
  have p14 : q14 b = _ := (show q14 b = pMany pText m.names.length (q13 b).2 by unfold q14; rw [show (q13 b).1 = m.names.length by rw [p13]]).trans (step_strs p13 k10)
  have p15 : q15 b = _ := step_text p14 (by omega)
  refine ⟨by rw [p0]; rfl, by rw [p15], ?_⟩
  have i0 : ∀ {x : Int}, 0 ≤ x → ((x.toNat : Nat) : Int) = x := fun h => Int.toNat_of_nonneg h
  have iw : toInts (m.who.map Int.toNat) = m.who := by
    rw [toInts, List.map_map]
    conv => rhs; rw [← List.map_id m.who]
    apply List.map_congr_left
    intro x hx
    exact i0 (inAll_mem k6 hx).1
  have inn : toStrs (m.names.map strB) = m.names := by
    rw [toStrs, List.map_map]
    conv => rhs; rw [← List.map_id m.names]
    apply List.map_congr_left
    intro x hx
    simp [strB]
  simp only [gotM, Ms.con, p1, p2, p3, p4, p5, p6, p7, p8, p9, p10, p12, p14, p15, iw, inn, i0 f1.1, i0 f2.1, i0 f3.1, i0 f4.1, i0 f5.1, i0 f6.1, i0 f7.1, i0 f9.1, i0 (show (0 : Int) ≤ m.kind by omega)]
  simp [strB]
theorem putM_con {m x : Ms} (h : m.con = x.con) : putM m = putM x := by
  simp only [Ms.con, Prod.mk.injEq, List.cons.injEq, and_true] at h
  obtain ⟨⟨h1, h2, h3, h4, h5, h6, h7, h8, h9⟩, h10, h11, h12, h13⟩ := h
  simp only [putM, bodyB, bodyS, h1, h2, h3, h4, h5, h6, h7, h8, h9, h10, h11, h12, h13]
theorem sealB_len (l : List UInt8) : (sealB l).length = l.length + 4 := by simp [sealB, fourB]
theorem sealB_take (l : List UInt8) : (sealB l).take ((sealB l).length - 4) = l := by
  rw [sealB_len, Nat.add_sub_cancel, sealB, List.take_append_of_le_length (Nat.le_refl _), List.take_length]
/-- What the program asks of what it read, and what the document asks, are one. -/
theorem got_same {x : List UInt8} (hg : goodB x = true) : (msgOk (gotM (x.take (x.length - 4))) && decide (putM (gotM (x.take (x.length - 4))) = x)) = readOk (x.take (x.length - 4)) := by
  have hx : x = sealB (x.take (x.length - 4)) := by simp only [goodB, decide_eq_true_eq] at hg; exact hg.2
  generalize x.take (x.length - 4) = b at hx
  subst hx
  rw [Bool.eq_iff_iff]
  simp only [readOk, Bool.and_eq_true, decide_eq_true_eq, Bool.not_eq_true']
  constructor
  · rintro ⟨h1, h2⟩
    have e : bodyB (gotM b) = b := by
      have := congrArg (fun l => l.take (l.length - 4)) h2
      simpa only [putM, sealB_take] using this
    have h3 := parse_back h1
    rw [e] at h3
    exact ⟨⟨⟨h3.1, by rw [h3.2.1]⟩, by rw [h3.2.1]⟩, h1⟩
  · rintro ⟨⟨⟨h1, h2⟩, h3⟩, h4⟩
    refine ⟨h4, ?_⟩
    have e := parse_sound h2 h3
    rw [h1] at e
    show sealB (bodyS 77 (gotM b)) = sealB b
    exact congrArg sealB e.symm
end Sh
/- '[]byte(s)' of a text. -/
set_option linter.unusedVariables false
set_option linter.unusedSimpArgs false
namespace Sh
open Go Go.RowKit Go.Proofs
attribute [local go_sem ↓] Go.wp_at_zero Go.wp_at_succ
set_option maxHeartbeats 1000000
set_option maxRecDepth 100000

theorem convBytes {w : World} {R : Snap} {L : Asrt} {s : ByteArray} (H : Holds w R L) (hs : s.size ≤ maxLen) :
    ∃ (a : Option Addr) (c : Nat) (w' : World), (convert 9 22 (.string s)).run Try.prog w = .ok (.slice a s.size c) w' ∧ ∃ R', R.le R' ∧ Holds w' R' L ∧ RdB R'.cell? (.slice a s.size c) (strB s) := by
  have hrun := run_bytes_of_string (P := Try.prog) w 9 22 5 s Try.underlying9 undBytes Try.underlying5
  obtain ⟨C, hC⟩ : ∃ C, C = bytesRow s (grownCap w s.size 0 5) := ⟨_, rfl⟩
  rw [← hC] at hrun
  obtain ⟨R', le', H', hb⟩ := H.drew.allocR (.cells C 5 (C.size, C.size + 1))
  refine ⟨_, _, _, hrun, R', le', H', ?_⟩
  have hb : R'.blk w.heap.size = some (.cells C 5 (C.size, C.size + 1)) := hb
  refine ⟨_, _, rfl, ?_, grownCap_le_maxLen w s.size 0 _ hs, by simp, (fun e => by cases e), ?_⟩
  · rw [strB_len]; exact grownCap_ge w s.size 0 _
  · intro b o t e j u hu
    simp only [Option.some.injEq, Addr.mk.injEq] at e
    obtain ⟨rfl, rfl, rfl⟩ := e
    refine ⟨rfl, ?_⟩
    unfold Snap.cell?
    simp only [hb, Nat.zero_add]
    have hj : j < (strB s).length := by
      have := (List.getElem?_eq_some_iff.1 hu).1
      rwa [u8s_length] at this
    rw [u8s_get _ _ hj] at hu
    rw [hC, bytesRow]
    have hj2 : j < s.data.size := by simpa [strB] using hj
    rw [Array.getElem?_append_left (by simpa using hj2)]
    simp only [Option.some.injEq] at hu
    subst hu
    simp [strB]
    exact ⟨s.data[j], Array.getElem?_eq_getElem hj2, rfl⟩
end Sh
/- crc.Table's contracts. -/
set_option linter.unusedVariables false
set_option linter.unusedSimpArgs false
namespace Sh
open Go Go.RowKit Go.Proofs
attribute [local go_sem ↓] Go.wp_at_zero Go.wp_at_succ
set_option maxHeartbeats 1000000
set_option maxRecDepth 100000

/-! ### The model's words on bits -/
/-- The number of a register, of a byte: behind a name, so that the walk leaves it whole. -/
def tn (x : Reg) : Int := (x.toNat : Int)
def bn (x : BitVec 8) : Int := (x.toNat : Int)
theorem bn_bd (x : BitVec 8) : 0 ≤ bn x ∧ bn x < 256 := by have := x.isLt; unfold bn; omega
theorem tn_bd (x : Reg) : 0 ≤ tn x ∧ tn x < 4294967296 := by have := x.isLt; unfold tn; omega
theorem tn_inj {x y : Reg} (h : tn x = tn y) : x = y := by
  unfold tn at h; exact BitVec.eq_of_toNat_eq (by omega)
theorem wrap32 (x : Reg) : IntKind.u32.wrap (x.toNat : Int) = tn x := by
  have := x.isLt
  unfold tn
  simp [IntKind.wrap, IntKind.bits, IntKind.signed]; omega
theorem wrap8 (x : BitVec 8) : IntKind.u8.wrap (x.toNat : Int) = bn x := by
  have := x.isLt
  unfold bn
  simp [IntKind.wrap, IntKind.bits, IntKind.signed]; omega
theorem ofInt32 (x : Reg) : BitVec.ofInt 32 (tn x) = x := by simp [tn]
theorem ofInt8 (x : BitVec 8) : BitVec.ofInt 8 (bn x) = x := by simp [bn]
@[go_sem] theorem xor32 (x y : Reg) : bits .xor .u32 (tn x) (tn y) = tn (x ^^^ y) := by
  show IntKind.u32.wrap (((BitVec.ofInt 32 (tn x)) ^^^ (BitVec.ofInt 32 (tn y))).toNat : Int) = _
  rw [ofInt32, ofInt32, wrap32]
@[go_sem] theorem xorP (x : Reg) : bits .xor .u32 (tn x) 3988292384 = tn (x ^^^ 0xEDB88320#32) := xor32 x 0xEDB88320#32
@[go_sem] theorem xorOnes (x : Reg) : bits .xor .u32 4294967295 (tn x) = tn (x ^^^ crcOnes) := by
  rw [BitVec.xor_comm]; exact xor32 crcOnes x
@[go_sem] theorem xorOnes2 (x : Reg) : bits .xor .u32 (tn x) 4294967295 = tn (x ^^^ crcOnes) := xor32 x crcOnes
@[go_sem] theorem xor8 (x : BitVec 8) (c : UInt8) : bits .xor .u8 (bn x) (c.toNat : Int) = bn (x ^^^ c.toBitVec) := by
  show IntKind.u8.wrap (((BitVec.ofInt 8 (bn x)) ^^^ (BitVec.ofInt 8 (bn c.toBitVec))).toNat : Int) = _
  rw [ofInt8, ofInt8, wrap8]
theorem and1 (x : Reg) : bits .and .u32 (tn x) 1 = if x.getLsbD 0 then 1 else 0 := by
  show IntKind.u32.wrap (((BitVec.ofInt 32 (tn x)) &&& 1#32).toNat : Int) = _
  rw [ofInt32, wrap32]
  have : x &&& 1#32 = if x.getLsbD 0 then 1#32 else 0#32 := by
    apply BitVec.eq_of_getLsbD_eq
    intro i hi
    cases i with
    | zero => rw [BitVec.getLsbD_and]; cases x.getLsbD 0 <;> rfl
    | succ i => rw [BitVec.getLsbD_and]; cases x.getLsbD 0 <;> simp
  rw [this]; split <;> rfl
theorem shr32 (x : Reg) (n : Nat) : tn x / (2 : Int) ^ n = tn (x >>> n) := by
  unfold tn; rw [BitVec.toNat_ushiftRight, Nat.shiftRight_eq_div_pow]; simp
@[go_sem] theorem low8 (x : Reg) : IntKind.u8.wrap (tn x) = bn (x.setWidth 8) := by
  unfold tn bn; simp [IntKind.wrap, IntKind.bits, IntKind.signed]
@[go_sem] theorem div2 (x : Reg) : tn x / (2 : Int) = tn (x >>> 1) := shr32 x 1
@[go_sem] theorem div256 (x : Reg) : tn x / (256 : Int) = tn (x >>> 8) := shr32 x 8
@[go_sem] theorem div65536 (x : Reg) : tn x / (65536 : Int) = tn (x >>> 16) := shr32 x 16
@[go_sem] theorem div16777216 (x : Reg) : tn x / (16777216 : Int) = tn (x >>> 24) := shr32 x 24

def rowC (i : Nat) : Array Value := ((List.range 256).map fun j => Value.int .u32 (if j < i then tn (rowOf (BitVec.ofNat 8 j)) else 0)).toArray
theorem rowC_set {i : Nat} (h : i < 256) : (rowC i).setIfInBounds i (.int .u32 (tn (rowOf (BitVec.ofNat 8 i)))) = rowC (i + 1) := by
  apply Array.ext
  · simp [rowC]
  · intro j h1 h2
    rw [Array.getElem_setIfInBounds (by simpa [rowC] using h2)]
    simp only [rowC, List.getElem_toArray, List.getElem_map, List.getElem_range]
    by_cases e : i = j
    · subst e; simp
    · rw [if_neg e]
      by_cases h3 : j < i
      · simp [h3, Nat.lt_succ_of_lt h3]
      · have : ¬ j < i + 1 := by omega
        simp [h3, this]
abbrev tabA (p : Nat) : Asrt := blk p (rowC 256) 151
theorem new_crc {w : World} {R : Snap} {L : Asrt} (H : Holds w R L) :
    Calls Try.prog 51 #[] w fun e w' => ∃ p, e = .returned (.pointer (some ⟨p, 0, none⟩)) ∧ Holds w' R (star (tabA p) L) := by
  go_enter Try.func51, Try.ntmps51
  go_wp2_with fail
  have H1 := H.alloc (rowC 0) 151
  rw [show Try.zeroCells151 = rowC 0 by kernel_rfl]
  generalize w.heap.size = p at H1 ⊢
  generalize (World.alloc ..) = w1 at H1 ⊢
  go_loopw [6] (fun i wx => ∃ j : Nat, i = .int .i64 j ∧ j ≤ 256 ∧ Holds wx R (star (blk p (rowC j) 151) L)) (fun i _ => 256 - (intOf i).toNat)
  case atStart => exact ⟨0, rfl, Nat.zero_le _, H1⟩
  case round =>
    obtain ⟨j, rfl, hj, H3⟩ := hrel
    clear H1
    by_cases hlt : j < 256
    · have e0 : ((j : Nat) : Int) = tn ((BitVec.ofNat 8 j).setWidth 32 : Reg) := by unfold tn; simp; omega
      have E0 := Hid.mk' e0
      clear e0
      go_wp2_with fail
      go_loop [3, 11] (fun x k => ∃ (n : Nat) (y : Reg), k = .int .i64 n ∧ n ≤ 8 ∧ x = .int .u32 (tn y) ∧ crcSteps (8 - n) y = rowOf (BitVec.ofNat 8 j)) (fun _ k => 8 - (intOf k).toNat)
      case atStart => exact ⟨0, (BitVec.ofNat 8 j).setWidth 32, rfl, Nat.zero_le _, by rw [← E0.out], rfl⟩
      case round =>
        obtain ⟨n, y, rfl, hn, rfl, hy⟩ := hrel
        by_cases hn8 : n < 8
        · have hy2 : crcSteps (8 - (n + 1)) (crcStep y) = rowOf (BitVec.ofNat 8 j) := by
            rw [← hy, show 8 - n = (8 - (n + 1)) + 1 by omega]; rfl
          have HY := Hid.mk' hy2
          clear hy hy2
          have ha := and1 y
          by_cases hb : y.getLsbD 0 = true
          · have hs : crcStep y = (y >>> 1) ^^^ 0xEDB88320#32 := by unfold crcStep; rw [if_pos hb]
            rw [hb, if_pos rfl] at ha
            have HS := Hid.mk' hs
            clear hs hb
            go_wp2_with fail
            go_round
            case rel => exact ⟨n + 1, crcStep y, by go_num, hn8, by rw [HS.out]; try rw [div2, xorP], HY.out⟩
            case measure => simp [intOf]; omega
          · have hs : crcStep y = y >>> 1 := by unfold crcStep; rw [if_neg hb]
            rw [if_neg hb] at ha
            have HS := Hid.mk' hs
            clear hs hb
            go_wp2_with fail
            go_round
            case rel => exact ⟨n + 1, crcStep y, by go_num, hn8, by rw [HS.out]; try rw [div2], HY.out⟩
            case measure => simp [intOf]; omega
        · obtain rfl : n = 8 := by omega
          have hy : y = rowOf (BitVec.ofNat 8 j) := hy
          subst hy
          have cj : wr.cell? ⟨p, j, none⟩ = some (.int .u32 0) := by
            rw [H3.blkCell]; simp [rowC, hlt]
          have zj := H3.blkFrozen j
          go_wp2_with fail
          go_roundw
          case rel => exact ⟨j + 1, by go_num, hlt, by rw [← rowC_set hlt]; exact H3.set j _⟩
          case measure => simp [intOf]; omega
    · obtain rfl : j = 256 := by omega
      go_wp2_with fail
      go_ret
      exact ⟨_, rfl, H3⟩
theorem tab_cell {w : World} {p : Nat} (h : ∀ o, w.cell? ⟨p, o, none⟩ = (rowC 256)[o]?) (i : BitVec 8) : w.cell? ⟨p, (bn i).toNat, none⟩ = some (.int .u32 (tn (rowOf i))) := by
  have hi := i.isLt
  have e : (bn i).toNat = i.toNat := by unfold bn; simp
  rw [h, e]
  simp only [rowC, List.getElem?_toArray, List.getElem?_map]
  rw [List.getElem?_range (by omega)]
  simp only [Option.map_some]
  rw [if_pos (by omega)]
  simp
theorem crcRun_take (r : Reg) (l : List UInt8) (j : Nat) (h : j < l.length) : crcRun r (l.take (j + 1)) = byteStep (crcRun r (l.take j)) l[j] := by
  rw [List.take_succ_eq_append_getElem h, crcRun_append]; rfl
theorem sum_nil (w : World) (v : Value) : Calls Try.prog 143 #[.pointer none, v] w fun e w' => e = .returned (.int .u32 0) ∧ w = w' := by
  go_enter Try.func143, Try.ntmps143
  go_wp2_with fail
  go_ret
  exact ⟨rfl, rfl⟩
theorem sum_crc {w : World} {p : Nat} {vp : Value} {parts : List (Value × List UInt8)} (ht : ∀ o, w.cell? ⟨p, o, none⟩ = (rowC 256)[o]?) (hp : Rd w.cell? 1 vp parts.length (parts.map (·.1))) (hb : ∀ q ∈ parts, RdB w.cell? q.1 q.2) :
    Calls Try.prog 143 #[.pointer (some ⟨p, 0, none⟩), vp] w fun e w' => e = .returned (.int .u32 (tn (crcOf (parts.flatMap (·.2))))) ∧ w = w' := by
  obtain ⟨av, cv, rfl⟩ := hp.form
  have hpm := hp.max
  unfold maxLen at hpm
  have htc := tab_cell ht
  clear ht
  have HT := Hid.mk' htc
  clear htc
  go_enter Try.func143, Try.ntmps143
  go_wp2_with fail
  go_loop [5, 14] (fun x i => ∃ j : Nat, i = .int .i64 j ∧ j ≤ parts.length ∧ x = .int .u32 (tn (crcRun crcOnes ((parts.take j).flatMap (·.2))))) (fun _ i => parts.length - (intOf i).toNat)
  case atStart => exact ⟨0, rfl, Nat.zero_le _, rfl⟩
  case round =>
    obtain ⟨j, rfl, hj, rfl⟩ := hrel
    by_cases hlt : j < parts.length
    · obtain ⟨bv, ov, rfl, hc⟩ := hp.open (by omega)
      have cj := hc j parts[j].1 (by rw [List.getElem?_map, List.getElem?_eq_getElem hlt]; rfl)
      have hbj := hb parts[j] (List.getElem_mem hlt)
      have hs : (parts.take (j + 1)).flatMap (·.2) = (parts.take j).flatMap (·.2) ++ parts[j].2 := by
        rw [List.take_succ_eq_append_getElem hlt, List.flatMap_append, List.flatMap_singleton]
      have hs2 := congrArg (crcRun crcOnes) hs
      rw [crcRun_append] at hs2
      clear hs
      generalize crcRun crcOnes ((parts.take j).flatMap (·.2)) = r0 at hs2 ⊢
      generalize parts[j] = q at cj hbj hs2
      obtain ⟨qv, q⟩ := q
      obtain ⟨aq, cq, hq⟩ := hbj.form
      simp only at hq
      subst hq
      simp only at hbj cj hs2
      have HS := Hid.mk' hs2
      have hqm := Rd.max hbj
      unfold maxLen at hqm
      clear hs2 hc
      go_wp2_with fail
      go_loop [5, 20] (fun x i => ∃ k : Nat, i = .int .i64 k ∧ k ≤ q.length ∧ x = .int .u32 (tn (crcRun r0 (q.take k)))) (fun _ i => q.length - (intOf i).toNat)
      case atStart => exact ⟨0, rfl, Nat.zero_le _, rfl⟩
      case round =>
        obtain ⟨k, rfl, hk, rfl⟩ := hrel
        by_cases hlk : k < q.length
        · obtain ⟨bq, oq, rfl, hcq⟩ := RdB.open hbj (by omega)
          have ck := hcq k hlk
          have hst := crcRun_take r0 q k hlk
          rw [byteStep_row] at hst
          generalize crcRun r0 (q.take k) = y at hst ⊢
          generalize q[k] = c at ck hst
          have htb := HT.out (y.setWidth 8 ^^^ c.toBitVec)
          have hbd := bn_bd (y.setWidth 8 ^^^ c.toBitVec)
          have HX := Hid.mk' hst
          clear hst hcq
          go_wp2_with fail
          go_round
          case rel => exact ⟨k + 1, by go_num, hlk, by rw [HX.out]⟩
          case measure => simp [intOf]; omega
        · go_wp2_with fail
          go_round
          case rel => exact ⟨j + 1, by go_num, hlt, by rw [HS.out, List.take_of_length_le (by omega)]⟩
          case measure => simp [intOf]; omega
    · go_wp2_with fail
      go_ret
      rw [List.take_of_length_le (by omega), show IntKind.u32.max = 4294967295 from rfl, xorOnes]
      exact ⟨rfl, rfl⟩
theorem four_spec {w : World} {R : Snap} {L : Asrt} (H : Holds w R L) (x : Reg) :
    Calls Try.prog 183 #[.int .u32 (tn x)] w fun e w' => e = .returned (.agg #[.int .u8 (bn (x.setWidth 8)), .int .u8 (bn ((x >>> 8).setWidth 8)), .int .u8 (bn ((x >>> 16).setWidth 8)), .int .u8 (bn ((x >>> 24).setWidth 8))]) ∧ Holds w' R L := by
  go_enter Try.func183, Try.ntmps183
  go_wp2_with fail
  refine bodyPost_ret (results_cell_row rfl _ _ w.heap.size 206 _ (0, 0) _ rfl (heap_alloc_new _ _) Try.underlying206 rfl (by kernel_rfl)) rfl ?_
  exact ⟨rfl, H.garbage _⟩
/-- A byte of a sum. -/
def fb (x : Reg) (k : Nat) : UInt8 := UInt8.ofBitVec ((x >>> (8 * k)).setWidth 8)
theorem fourB_eq (x : Reg) : fourB x = [fb x 0, fb x 1, fb x 2, fb x 3] := rfl
theorem fb_bn (x : Reg) (k : Nat) : bn ((x >>> (8 * k)).setWidth 8) = ((fb x k).toNat : Int) := rfl
theorem fourB_take_succ (x : Reg) {j : Nat} (h : j < 4) : (fourB x).take (j + 1) = (fourB x).take j ++ [fb x j] := by
  rw [fourB_eq]
  obtain rfl | rfl | rfl | rfl : j = 0 ∨ j = 1 ∨ j = 2 ∨ j = 3 := by omega
  all_goals rfl
theorem four_index (x : Reg) {j : Nat} (h : j < 4) : (#[Value.int .u8 ((fb x 0).toNat : Int), .int .u8 ((fb x 1).toNat : Int), .int .u8 ((fb x 2).toNat : Int), .int .u8 ((fb x 3).toNat : Int)])[j]? = some (.int .u8 ((fb x j).toNat : Int)) := by
  obtain rfl | rfl | rfl | rfl : j = 0 ∨ j = 1 ∨ j = 2 ∨ j = 3 := by omega
  all_goals rfl
theorem four_spec2 {w : World} {R : Snap} {L : Asrt} (H : Holds w R L) (x : Reg) :
    Calls Try.prog 183 #[.int .u32 (tn x)] w fun e w' => e = .returned (.agg #[.int .u8 ((fb x 0).toNat : Int), .int .u8 ((fb x 1).toNat : Int), .int .u8 ((fb x 2).toNat : Int), .int .u8 ((fb x 3).toNat : Int)]) ∧ Holds w' R L :=
  (four_spec H x).mono fun e w' h => h
@[go_sem] theorem idx4_0 (w : World) (x y z u : Int) : (Instr.index 206 (.agg #[.int .u8 x, .int .u8 y, .int .u8 z, .int .u8 u]) (.int .i64 0)).run Try.prog w = .ok (.int .u8 x) w := by kernel_rfl
@[go_sem] theorem idx4_1 (w : World) (x y z u : Int) : (Instr.index 206 (.agg #[.int .u8 x, .int .u8 y, .int .u8 z, .int .u8 u]) (.int .i64 1)).run Try.prog w = .ok (.int .u8 y) w := by kernel_rfl
@[go_sem] theorem idx4_2 (w : World) (x y z u : Int) : (Instr.index 206 (.agg #[.int .u8 x, .int .u8 y, .int .u8 z, .int .u8 u]) (.int .i64 2)).run Try.prog w = .ok (.int .u8 z) w := by kernel_rfl
@[go_sem] theorem idx4_3 (w : World) (x y z u : Int) : (Instr.index 206 (.agg #[.int .u8 x, .int .u8 y, .int .u8 z, .int .u8 u]) (.int .i64 3)).run Try.prog w = .ok (.int .u8 u) w := by kernel_rfl
theorem seal_nil {w : World} {R : Snap} {L : Asrt} {v : Value} {b : List UInt8} (H : Holds w R L) (hr : RdB R.cell? v b) (hb : b.length ≤ 1000000) :
    Calls Try.prog 117 #[.pointer none, v] w fun e w' => ∃ o, e = .returned o ∧ Holds w' R (star (rowB o b) L) := by
  obtain ⟨a, c, rfl⟩ := hr.form
  go_enter Try.func117, Try.ntmps117
  go_wp2_with (with_reducible refine stop_make ?_)
  refine Hold.go (wpList_makeB0 (n := b.length + 4) rfl _ _ rfl rfl rfl H (by omega) ?_)
  intro v1 w1 H1
  go_wp2_with (with_reducible refine stop_append ?_)
  refine Hold.go (wpList_appendB rfl _ _ rfl rfl rfl H1 (hr.world H1) (by simp only [List.length_nil]; omega) ?_)
  intro v2 w2 H2
  go_wp2_with fail
  go_ret
  exact ⟨_, rfl, H2⟩
abbrev tabT : TypeId := 151
theorem one_part {w : World} {R : Snap} {L : Asrt} {t : TypeId} {v : Value} (H : Holds w R L) (h : v.cells = #[v] := by rfl) : Rd (w.alloc (.cells #[v] t)).cell? 1 (.slice (some ⟨w.heap.size, 0, none⟩) 1 1) 1 [v] :=
  ((H.alloc #[v] t).toRow 1 1 1 (Nat.le_refl _) (by simp [maxLen]) rfl).rowRd
theorem seal_crc {w : World} {R : Snap} {L : Asrt} {p : Nat} {v : Value} {b : List UInt8} (H : Holds w R L) (hT : R.blk p = some (.cells (rowC 256) tabT (0, 0))) (hr : RdB R.cell? v b) (hb : b.length ≤ 1000000) :
    Calls Try.prog 117 #[.pointer (some ⟨p, 0, none⟩), v] w fun e w' => ∃ o, e = .returned o ∧ Holds w' R (star (rowB o (sealB b)) L) := by
  obtain ⟨a, c, rfl⟩ := hr.form
  go_enter Try.func117, Try.ntmps117
  go_wp2_with (with_reducible refine stop_make ?_)
  refine Hold.go (wpList_makeB0 (n := b.length + 4) rfl _ _ rfl rfl rfl H (by omega) ?_)
  intro v1 w1 H1
  go_wp2_with (with_reducible refine stop_append ?_)
  refine Hold.go (wpList_appendB rfl _ _ rfl rfl rfl H1 (hr.world H1) (by simp only [List.length_nil]; omega) ?_)
  intro v2 w2 H2
  clear H1
  rw [List.nil_append] at H2
  go_wp2_with fail
  have H3 := H2.garbage (.cells #[.slice a b.length c] tBytes)
  refine (sum_crc (parts := [(.slice a b.length c, b)]) (H3.frz hT) (one_part H2) (by intro q hq; rw [List.mem_singleton.1 hq]; exact hr.world H3)).mono ?_
  rintro e w3 ⟨rfl, rfl⟩
  rw [show List.flatMap (fun x : Value × List UInt8 => x.2) [(Value.slice a b.length c, b)] = b from by simp]
  generalize (World.alloc ..) = w3 at H3 ⊢
  clear H2
  go_wp2_with fail
  refine (four_spec2 H3 (crcOf b)).mono ?_
  rintro e w4 ⟨rfl, H4⟩
  clear H3
  go_wp2_with fail
  have H5 : Holds w4 R (star (rowB v2 (b ++ (fourB (crcOf b)).take 0)) L) := by simpa using H4
  go_loopw [5, 22] (fun o i wx => ∃ j : Nat, i = .int .i64 j ∧ j ≤ 4 ∧ Holds wx R (star (rowB o (b ++ (fourB (crcOf b)).take j)) L)) (fun _ i _ => 4 - (intOf i).toNat)
  case atStart => exact ⟨0, rfl, Nat.zero_le _, H5⟩
  case round =>
    clear H4 H5
    obtain ⟨j, rfl, hj, H6⟩ := hrel
    by_cases hlt : j < 4
    · have hs := fourB_take_succ (crcOf b) hlt
      have HS := Hid.mk' hs
      have hln : (b ++ (fourB (crcOf b)).take j).length ≤ 1000010 := by
        rw [List.length_append, List.length_take, fourB_length]; omega
      clear hs
      rcases (by omega : j = 0 ∨ j = 1 ∨ j = 2 ∨ j = 3) with rfl | rfl | rfl | rfl
      all_goals
        go_wp2_with (with_reducible refine stop_append ?_)
        refine Hold.go (wpList_appendB rfl _ _ rfl rfl rfl (H6.garbage _) (blkRdB (H6.alloc _ _) [fb (crcOf b) _] rfl rfl (Nat.le_of_ble_eq_true rfl)) (by rw [List.length_singleton]; omega) ?_)
        intro v7 w7 H7
        go_wp2_with fail
        go_roundw
        case rel => exact ⟨_ + 1, rfl, by omega, by rw [HS.out, ← List.append_assoc]; exact H7⟩
        case measure => simp [intOf]
    · obtain rfl : j = 4 := by omega
      go_wp2_with fail
      go_ret
      exact ⟨_, rfl, H6⟩
theorem fourB_get (x : Reg) {j : Nat} (h : j < 4) : (fourB x)[j]? = some (fb x j) := by
  rw [fourB_eq]
  rcases (by omega : j = 0 ∨ j = 1 ∨ j = 2 ∨ j = 3) with rfl | rfl | rfl | rfl
  all_goals rfl
theorem goodB_iff {b : List UInt8} (h : 4 ≤ b.length) : goodB b = true ↔ ∀ i, i < 4 → b[b.length - 4 + i]? = some (fb (crcOf (b.take (b.length - 4))) i) := by
  unfold goodB sealB
  rw [decide_eq_true_eq]
  generalize crcOf (b.take (b.length - 4)) = x
  obtain ⟨n, hn⟩ : ∃ n, n = b.length - 4 := ⟨_, rfl⟩
  rw [← hn]
  constructor
  · rintro ⟨_, e⟩ i hi
    have e2 : b.drop n = fourB x := List.append_cancel_left ((List.take_append_drop n b).trans e)
    rw [← List.getElem?_drop, e2]; exact fourB_get x hi
  · intro hi
    refine ⟨h, ?_⟩
    have e2 : b.drop n = fourB x := by
      apply List.ext_getElem?
      intro i
      by_cases h4 : i < 4
      · rw [List.getElem?_drop, hi i h4, fourB_get x h4]
      · rw [List.getElem?_eq_none (by simp; omega), List.getElem?_eq_none (by rw [fourB_length]; omega)]
    rw [← e2, List.take_append_drop]
theorem good_nil (w : World) (v : Value) {b : List UInt8} (hr : RdB w.cell? v b) : Calls Try.prog 125 #[.pointer none, v] w fun e w' => e = .returned (.bool false) ∧ w = w' := by
  obtain ⟨a, c, rfl⟩ := hr.form
  go_enter Try.func125, Try.ntmps125
  go_wp2_with fail
  go_ret
  exact ⟨rfl, rfl⟩
theorem good_crc {w : World} {R : Snap} {L : Asrt} {p : Nat} {v : Value} {b : List UInt8} (H : Holds w R L) (hT : R.blk p = some (.cells (rowC 256) tabT (0, 0))) (hr : RdB R.cell? v b) (hb : b.length ≤ 1000000) :
    Calls Try.prog 125 #[.pointer (some ⟨p, 0, none⟩), v] w fun e w' => e = .returned (.bool (goodB b)) ∧ Holds w' R L := by
  obtain ⟨a, c, rfl⟩ := hr.form
  by_cases h4 : 4 ≤ b.length
  · have hB := hr.bounds
    obtain ⟨n, hn⟩ : ∃ n, n = b.length - 4 := ⟨_, rfl⟩
    have hbn : b.length = n + 4 := by omega
    have hbz : (b.length : Int) - 4 = n := by omega
    have i1 : (0 : Int) ≤ (n : Int) := by omega
    have i2 : (n : Int) ≤ (c : Int) := by omega
    have hpre := RdB.pre hr n (by omega)
    have t0 : (decide ((n : Int) < 0)) = false := by simp
    have hgi := goodB_iff h4
    rw [← hn] at hgi
    have hbt : (b.take n).length = n := by simp; omega
    have HN := Hid.mk' hbn
    have HG := Hid.mk' hgi
    clear hn hgi
    go_enter Try.func125, Try.ntmps125
    go_wp2_with fail
    have H3 := H.garbage (.cells #[.slice a n c] tBytes)
    refine (sum_crc (parts := [(.slice a n c, b.take n)]) (H3.frz hT) (one_part H) (by intro q hq; rw [List.mem_singleton.1 hq]; exact hpre.world H3)).mono ?_
    rintro e w3 ⟨rfl, rfl⟩
    rw [show List.flatMap (fun x : Value × List UInt8 => x.2) [(Value.slice a n c, b.take n)] = b.take n from by simp]
    generalize (World.alloc ..) = w3 at H3 ⊢
    generalize crcOf (b.take n) = x at HG ⊢
    go_wp2_with fail
    refine (four_spec2 H3 x).mono ?_
    rintro e w4 ⟨rfl, H4⟩
    clear H3
    go_wp2_with fail
    go_loop [24] (fun i => ∃ j : Nat, i = .int .i64 j ∧ j ≤ 4 ∧ ∀ i, i < j → b[n + i]? = some (fb x i)) (fun i => 4 - (intOf i).toNat)
    case atStart => exact ⟨0, rfl, Nat.zero_le _, fun i hi => absurd hi (Nat.not_lt_zero i)⟩
    case round =>
      obtain ⟨j, rfl, hj, hall⟩ := hrel
      have HA := Hid.mk' hall
      clear hall
      by_cases hlt : j < 4
      · obtain ⟨bb, ob, rfl, hcb⟩ := RdB.open hr (by omega)
        have hnj : n + j < b.length := by have := HN.out; omega
        have cj := H4.cell (hcb (n + j) hnj)
        have hgj : b[n + j]? = some b[n + j] := List.getElem?_eq_getElem hnj
        have HJ := Hid.mk' hgj
        clear hcb hgj
        generalize b[n + j] = y at cj HJ
        have hsucc : y = fb x j → ∀ i, i < j + 1 → b[n + i]? = some (fb x i) := fun e i hi => by
          by_cases h : i < j
          · exact HA.out i h
          · obtain rfl : i = j := by omega
            rw [HJ.out, e]
        have hfail : y ≠ fb x j → goodB b = false := fun e => by
          cases hgb : goodB b with
          | false => rfl
          | true =>
            have := (HG.out.1 hgb) j hlt
            rw [HJ.out] at this
            exact absurd (Option.some.inj this) e
        have HSU := Hid.mk' hsucc
        have HFA := Hid.mk' hfail
        clear hsucc hfail
        by_cases hyx : y = fb x j
        · subst hyx
          rcases (by omega : j = 0 ∨ j = 1 ∨ j = 2 ∨ j = 3) with rfl | rfl | rfl | rfl
          all_goals
            try simp only [Nat.add_zero] at cj
            go_wp2_with fail
            go_round
            case rel => exact ⟨_ + 1, rfl, by omega, HSU.out rfl⟩
            case measure => simp [intOf]
        · have hz : ¬ ((y.toNat : Int) = ((fb x j).toNat : Int)) := fun e => hyx (UInt8.toNat_inj.1 (by omega))
          rcases (by omega : j = 0 ∨ j = 1 ∨ j = 2 ∨ j = 3) with rfl | rfl | rfl | rfl
          all_goals
            try simp only [Nat.add_zero] at cj
            go_wp2_with fail
            go_ret
            rw [HFA.out hyx]
            exact ⟨rfl, H4⟩
      · obtain rfl : j = 4 := by omega
        go_wp2_with fail
        go_ret
        rw [HG.out.2 HA.out]
        exact ⟨rfl, H4⟩
  · have t1 : (decide ((b.length : Int) - 4 < 0)) = true := by simp; omega
    have hg : goodB b = false := by unfold goodB; simp [h4]
    go_enter Try.func125, Try.ntmps125
    go_wp2_with fail
    go_ret
    rw [hg]
    exact ⟨rfl, H⟩
end Sh
