/- The packer's reference: what it reads by, over the bytes that are left. -/
import Derived.Test.YtmogagcffebbaaaPackRef
import Derived.Test.YtmogagcffebbaaaMsgMany
set_option linter.unusedVariables false
set_option linter.unusedSimpArgs false
namespace Sh
open Go Go.RowKit Go.Proofs
attribute [local go_sem ↓] Go.wp_at_zero Go.wp_at_succ
set_option maxHeartbeats 1000000
set_option maxRecDepth 100000

abbrev tR6 : TypeId := 167
def Pos (b : List UInt8) (at_ : Nat) (s : PSt) : Prop := at_ ≤ b.length ∧ b.drop at_ = s.1
theorem Pos.done {b : List UInt8} {at_ : Nat} {s : PSt} (h : Pos b at_ s) : (at_ = b.length) ↔ s.1 = [] := by
  obtain ⟨h1, h2⟩ := h
  rw [← h2, List.drop_eq_nil_iff]
  omega
theorem rr_num {w : World} {R : Snap} {L : Asrt} {p at_ : Nat} {v : Value} {b : List UInt8} {s : PSt} {k : Nat} (hk : wid k = k) (H : Holds w R (star (blk p #[v, .int .i64 at_, .bool s.2] tR6) L)) (hr : RdB R.cell? v b) (hp : Pos b at_ s) (hb : b.length ≤ 1000000) :
    Calls Try.prog 137 #[.pointer (some ⟨p, 0, none⟩), .int .i64 (k : Int)] w fun e w' => ∃ at' : Nat, e = .returned (.int .i64 ((pNum k s).1 : Nat)) ∧ Holds w' R (star (blk p #[v, .int .i64 at', .bool (pNum k s).2.2] tR6) L) ∧ Pos b at' (pNum k s).2 := by
  refine (refrnum_spec (k := (k : Int)) H hr hp.1 hb).mono ?_
  rintro e w2 ⟨rfl, H2⟩
  rw [hk, hp.2] at *
  refine ⟨_, rfl, H2, cutAt_le hp.1, ?_⟩
  rw [drop_cutAt, hp.2]; rfl
theorem rr_text {w : World} {R : Snap} {L : Asrt} {p at_ : Nat} {v : Value} {b : List UInt8} {s : PSt} (H : Holds w R (star (blk p #[v, .int .i64 at_, .bool s.2] tR6) L)) (hr : RdB R.cell? v b) (hp : Pos b at_ s) (hb : b.length ≤ 1000000) :
    Calls Try.prog 138 #[.pointer (some ⟨p, 0, none⟩)] w fun e w' => ∃ (o : Value) (at' : Nat), e = .returned o ∧ Holds w' R (star (rowB o (pText s).1) (star (blk p #[v, .int .i64 at', .bool (pText s).2.2] tR6) L)) ∧ Pos b at' (pText s).2 := by
  refine (refrtext_spec H hr hp.1 hb).mono ?_
  rintro e w2 ⟨o, rfl, H2⟩
  rw [hp.2] at *
  refine ⟨o, _, rfl, H2, cutAt_le (cutAt_le hp.1), ?_⟩
  rw [drop_cutAt, drop_cutAt, hp.2]; rfl
end Sh
