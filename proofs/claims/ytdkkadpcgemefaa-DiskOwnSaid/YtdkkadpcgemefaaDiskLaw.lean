/- sherdlaw16: what its laws share. -/
import Derived.Test.YtdkkadpcgemefaaDiskNew
import Derived.Test.YtdkkadpcgemefaaDiskWrite
import Derived.Test.YtdkkadpcgemefaaDiskPower
import Derived.Test.YtdkkadpcgemefaaDiskImage
set_option linter.unusedVariables false
set_option linter.unusedSimpArgs false
namespace Sh
open Go Go.RowKit Go.Proofs
attribute [local go_sem ↓] Go.wp_at_zero Go.wp_at_succ
set_option maxHeartbeats 1000000
set_option maxRecDepth 100000

/-- An element of a slice of structs. -/
theorem rd_elt {α : Type} {c : Addr → Option Value} {size n cap : Nat} {a : Option Addr} {l : List α} {f : α → List Value} (hf : ∀ x, (f x).length = size) (h : Rd c size (.slice a n cap) l.length (l.flatMap f)) (hs : 0 < size) {j : Nat} (hj : j < l.length) :
    ∃ b o, a = some ⟨b, o, none⟩ ∧ ∀ r u, r < size → (f l[j])[r]? = some u → c ⟨b, o + (j * size + r), none⟩ = some u := by
  have e : n = l.length := by
    obtain ⟨a', cap', e1, _⟩ := h
    simp only [Value.slice.injEq] at e1; exact e1.2.1
  subst e
  obtain ⟨b, o, rfl, hc⟩ := h.open (Nat.mul_pos (by omega) hs)
  exact ⟨b, o, rfl, fun r u hr hu => hc _ _ (by rw [flat_get f size hf l j r hj hr]; exact hu)⟩
structure Act16 where
  kind : Int
  at_ : Int
  n : Int
  mask : Int
  v : Value
  b : List UInt8
instance : Inhabited Act16 := ⟨⟨0, 0, 0, 0, .slice none 0 0, []⟩⟩
def Act16.cells (a : Act16) : List Value := [.int .i64 a.kind, .int .i64 a.at_, .int .i64 a.n, .int .u32 a.mask, a.v]
def Act16.Good (c : Addr → Option Value) (a : Act16) : Prop := RdB c a.v a.b ∧ (-9223372036854775808 ≤ a.n ∧ a.n ≤ 9223372036854775807) ∧ 0 ≤ a.mask ∧ a.mask ≤ 4294967295
def isLight16 (l : List Act16) : Bool := decide ((∀ a ∈ l, a.b.length ≤ 100) ∧ l.length ≤ 60)
theorem light16 {w : World} {R : Snap} {L : Asrt} {vl : Value} {l : List Act16} (H : Holds w R L) (hl : Rd R.cell? 5 vl l.length (l.flatMap Act16.cells)) (hg : ∀ a ∈ l, a.Good R.cell?) :
    Calls Try.prog 72 #[vl] w fun e w' => e = .returned (.bool (isLight16 l)) ∧ Holds w' R L := by
  obtain ⟨al, cl, rfl⟩ := hl.form
  have hm := hl.max
  unfold maxLen at hm
  go_enter Try.func72, Try.ntmps72
  go_wp2_with fail
  go_loopw [7] (fun i wx => ∃ j : Nat, i = .int .i64 j ∧ j ≤ l.length ∧ (∀ a ∈ l.take j, a.b.length ≤ 100) ∧ Holds wx R L) (fun i _ => l.length - (intOf i).toNat)
  case atStart => exact ⟨0, rfl, Nat.zero_le _, by simp, H⟩
  case round =>
    clear H
    obtain ⟨j, rfl, hj, hall, H1⟩ := hrel
    by_cases hlt : j < l.length
    · obtain ⟨bl, ol, rfl, hx⟩ := rd_elt (f := Act16.cells) (fun _ => rfl) (hl.world H1) (by decide) hlt
      have hgj := hg l[j] (List.getElem_mem hlt)
      have htk : l[j].b.length ≤ 100 → ∀ a ∈ l.take (j + 1), a.b.length ≤ 100 := by
        intro h2 a ha
        rw [List.take_succ_eq_append_getElem hlt] at ha
        rcases List.mem_append.1 ha with h | h
        · exact hall a h
        · rw [List.mem_singleton.1 h]; exact h2
      have htk2 : ¬ l[j].b.length ≤ 100 → isLight16 l = false := fun h1 => by
        simp only [isLight16, decide_eq_false_iff_not]
        exact fun h2 => h1 (h2.1 _ (List.getElem_mem hlt))
      generalize l[j] = x at hx hgj htk htk2
      obtain ⟨xk, xa, xn, xm, xv, xb⟩ := x
      obtain ⟨hxb, _⟩ := hgj
      obtain ⟨ab, cb, hab⟩ := hxb.form
      simp only at hab
      subst hab
      have c0 : wr.cell? ⟨bl, ol + j * 5, none⟩ = some (.int .i64 xk) := hx 0 _ (by omega) rfl
      have c1 : wr.cell? ⟨bl, ol + j * 5 + 1, none⟩ = some (.int .i64 xa) := hx 1 _ (by omega) rfl
      have c2 : wr.cell? ⟨bl, ol + j * 5 + 2, none⟩ = some (.int .i64 xn) := hx 2 _ (by omega) rfl
      have c3 : wr.cell? ⟨bl, ol + j * 5 + 3, none⟩ = some (.int .u32 xm) := hx 3 _ (by omega) rfl
      have c4 : wr.cell? ⟨bl, ol + j * 5 + 4, none⟩ = some (.slice ab xb.length cb) := hx 4 _ (by omega) rfl
      have HT := Hid.mk' htk
      have HT2 := Hid.mk' htk2
      clear hx hall htk htk2
      by_cases h3 : xb.length ≤ 100
      · have t1 : (decide ((100 : Int) < xb.length)) = false := by simp; omega
        go_wp2_with fail
        go_roundw
        case rel => exact ⟨j + 1, by go_num, hlt, HT.out h3, H1.garbage _⟩
        case measure => simp [intOf]; omega
      · have t1 : (decide ((100 : Int) < xb.length)) = true := by simp; omega
        go_wp2_with fail
        go_ret
        exact ⟨ret_bool (HT2.out h3).symm, H1.garbage _⟩
    · have HA := Hid.mk' hall
      clear hall
      go_wp2_with fail
      go_ret
      have e := HA.out
      rw [List.take_of_length_le (by omega)] at e
      refine ⟨ret_bool ?_, H1⟩
      rw [Bool.eq_iff_iff]
      simp only [isLight16, decide_eq_true_eq, beq_iff_eq]
      constructor
      · intro h; exact ⟨e, by omega⟩
      · intro h; have := h.2; omega
theorem wS_yes {S : List (List UInt8)} {left : Int} {dead : Bool} {i : Int} {b : List UInt8} (h : wOk S.length left dead i b = true) : wS S left dead i b = S.set i.toNat (pad64 b) := by simp [wS, h]
theorem wS_no {S : List (List UInt8)} {left : Int} {dead : Bool} {i : Int} {b : List UInt8} (h : wOk S.length left dead i b = false) : wS S left dead i b = S := by simp [wS, h]
theorem pad64_len {b : List UInt8} (h : b.length ≤ 64) : (pad64 b).length = 64 := by simp [pad64]; omega
theorem all_set {S : List (List UInt8)} {i : Nat} {b : List UInt8} (h : ∀ s ∈ S, s.length = 64) (hb : b.length = 64) : ∀ s ∈ S.set i b, s.length = 64 := by
  intro s hs
  rcases List.mem_or_eq_of_mem_set hs with h1 | h1
  · exact h s h1
  · rw [h1]; exact hb
theorem all_zeros {n : Nat} : ∀ s ∈ zeros n, s.length = 64 := by
  intro s hs
  rw [List.eq_of_mem_replicate hs]; simp
theorem alive16 {w : World} {R : Snap} {L : Asrt} (H : Holds w R L) : Calls Try.prog 73 #[] w fun e w' => e = .returned (.bool true) ∧ Holds w' R L := by
  go_enter Try.func73, Try.ntmps73
  go_wp2_with fail
  refine (disknew_spec (n := 2) H).mono ?_
  rintro e w1 ⟨p, rfl, H1⟩
  rw [show secN 2 = 2 from by decide] at H1
  go_wp2_with fail
  refine (dpower_spec H1).mono ?_
  rintro e w2 ⟨rfl, H2⟩
  go_wp2_with (with_reducible refine stop_make ?_)
  refine Hold.go (wpList_makeB (n := 64) rfl _ _ rfl rfl rfl H2 (by decide) ?_)
  intro v3 w3 H3
  obtain ⟨R4, le4, H4, hr4⟩ := H3.freezeRow
  go_wp2_with fail
  refine (dwrite_spec H4 hr4 (by decide)).mono ?_
  rintro e w5 ⟨rfl, H5⟩
  rw [show wOk (zeros 2).length (max 1 (-1)) false 0 (List.replicate 64 0) = true from by decide]
  rw [show wS (zeros 2) (max 1 (-1)) false 0 (List.replicate 64 0) = zeros 2 from by decide, show wLeft (zeros 2).length (max 1 (-1)) false 0 (List.replicate 64 0) = 0 from by decide, show wDead (zeros 2).length (max 1 (-1)) false 0 (List.replicate 64 0) = false from by decide] at H5
  go_wp2_with fail
  refine (dwrite_spec H5 RdB.nil (by decide)).mono ?_
  rintro e w6 ⟨rfl, H6⟩
  rw [show wOk (zeros 2).length 0 false 1 [] = false from by decide]
  rw [show wS (zeros 2) 0 false 1 [] = zeros 2 from by decide, show wLeft (zeros 2).length 0 false 1 [] = 0 from by decide, show wDead (zeros 2).length 0 false 1 [] = true from by decide] at H6
  go_wp2_with fail
  refine (ddead_spec H6).mono ?_
  rintro e w7 ⟨rfl, rfl⟩
  go_wp2_with fail
  refine (size_spec H6).mono ?_
  rintro e w7 ⟨rfl, rfl⟩
  go_wp2_with fail
  go_ret
  exact ⟨ret_bool (by decide), H6.drop.weaken le4⟩
end Sh
