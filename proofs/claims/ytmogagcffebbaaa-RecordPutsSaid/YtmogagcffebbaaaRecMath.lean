/- Records' sectors: the plain law: what is put is read back. -/
import Derived.Test.YtmogagcffebbaaaRecFirst
import Derived.Test.YtmogagcffebbaaaRecShare
import Derived.Test.YtmogagcffebbaaaSectorMath
set_option linter.unusedVariables false
set_option linter.unusedSimpArgs false
namespace Sh
open Go Go.RowKit Go.Proofs
attribute [local go_sem ↓] Go.wp_at_zero Go.wp_at_succ
set_option maxHeartbeats 1000000
set_option maxRecDepth 100000

theorem headR_len {r : Rc} (h : rcOk r = true) : (headR r).length = 34 := by
  have := nameB_len (rcOk_bounds h).1
  simp [headR, nb_length, wid_1, wid_2, wid_4, this]
theorem pieceL_len (r : Rc) (i : Nat) : (pieceL r i).length ≤ 48 := by
  unfold pieceL; rw [List.length_take]; omega
theorem bodyR_len (r : Rc) (i : Nat) : (bodyR r i).length ≤ 60 := by
  have := pieceL_len r i
  simp only [bodyR, tx, List.length_append, nb_length, wid_1, wid_4, List.length_take]
  omega
theorem head_open {r : Rc} (h : rcOk r = true) : openOk (sealS (headR r)) = true ∧ headR r <+: openP (sealS (headR r)) := by
  have hl : (headR r).length ≤ 60 := by rw [headR_len h]; omega
  obtain ⟨o1, o2⟩ := open_seal hl
  refine ⟨o1, ?_⟩
  rw [o2, padTo60, List.take_of_length_le hl]
  exact ⟨_, rfl⟩
theorem body_open {r : Rc} (h : rcOk r = true) (i : Nat) : openOk (sealS (bodyR r i)) = true ∧ textP (sealS (bodyR r i)) = pieceL r i := by
  obtain ⟨k1, f1, f2, f3, f4, f5, f6⟩ := rcOk_bounds h
  have hl := bodyR_len r i
  obtain ⟨o1, o2⟩ := open_seal hl
  refine ⟨o1, ?_⟩
  unfold textP
  rw [o2, padTo60, List.take_of_length_le hl]
  have e : bodyR r i = (nb 1 66 ++ (nb 1 (i : Int) ++ (nb 1 r.kind ++ (nb 4 r.attempt ++ nb 4 r.epoch)))) ++ tx (pieceL r i) := by
    simp only [bodyR, List.append_assoc]
  rw [e, List.append_assoc, List.drop_left' (by simp [nb_length, wid_1, wid_4])]
  rw [pText_tx (by have := pieceL_len r i; omega)]
theorem pieces_all (r : Rc) : ∀ n, (List.range n).flatMap (pieceL r) = r.share.take (n * 48)
  | 0 => by simp
  | n + 1 => by
    rw [List.range_succ, List.flatMap_append, pieces_all r n, List.flatMap_cons, List.flatMap_nil, List.append_nil, pieceL, Nat.add_mul, Nat.one_mul]
    exact (List.take_add ..).symm
theorem share_put {r : Rc} (h : rcOk r = true) : shareG ((List.range (bodiesN r.share.length)).map fun i => sealS (bodyR r i)) = r.share := by
  unfold shareG
  rw [if_pos]
  · rw [List.flatMap_map]
    have e : (List.range (bodiesN r.share.length)).flatMap (fun i => textP (sealS (bodyR r i))) = (List.range (bodiesN r.share.length)).flatMap (pieceL r) := flatMap_congr' fun i _ => (body_open h i).2
    rw [e, pieces_all, List.take_of_length_le]
    unfold bodiesN; omega
  · rw [List.all_eq_true]
    intro x hx
    obtain ⟨i, _, rfl⟩ := List.mem_map.1 hx
    exact (body_open h i).1
theorem putR_len (r : Rc) : (putR r).length = 1 + bodiesN r.share.length := by
  simp [putR]; omega
theorem putR_con {m x : Rc} (h : m.con = x.con) : putR m = putR x := by
  simp only [Rc.con, Prod.mk.injEq, List.cons.injEq, and_true] at h
  obtain ⟨⟨h1, h2, h3, h4, h5⟩, h6, h7⟩ := h
  simp only [putR, headR, bodyR, pieceL, h1, h2, h3, h4, h5, h6, h7]
/-- What the sectors begin with says the record. -/
theorem put_says {r : Rc} {ss : List (List UInt8)} (h : rcOk r = true) (hp : putR r <+: ss) : ∃ s0 rest, ss = s0 :: rest ∧ openOk s0 = true ∧ headR r <+: openP s0 ∧ bodiesN r.share.length ≤ rest.length ∧ shareG (rest.take (bodiesN r.share.length)) = r.share := by
  obtain ⟨t, ht⟩ := hp
  refine ⟨sealS (headR r), ((List.range (bodiesN r.share.length)).map fun i => sealS (bodyR r i)) ++ t, by rw [← ht]; rfl, (head_open h).1, (head_open h).2, by simp, ?_⟩
  rw [List.take_left' (by simp)]
  exact share_put h
abbrev zeroRc : Rc := ⟨0, ⟨#[]⟩, 0, 0, 0, 0, .slice none 0 0, []⟩
def GotR (ss : List (List UInt8)) (M : Rc) (n : Nat) (ok : Bool) : Prop := (ok = true ∧ rcOk M = true ∧ putR M <+: ss ∧ n = (putR M).length) ∨ (ok = false ∧ M.con = zeroRc.con ∧ n = 0 ∧ ∀ r, rcOk r = true → ¬ putR r <+: ss)
theorem put_one {r x : Rc} {ss : List (List UInt8)} (hr : rcOk r = true) (hx : rcOk x = true) (h1 : putR r <+: ss) (h2 : putR x <+: ss) : r.con = x.con := by
  obtain ⟨s0, rest, e1, _, p1, _, g1⟩ := put_says hr h1
  obtain ⟨s1, rest1, e2, _, p2, _, g2⟩ := put_says hx h2
  rw [e1] at e2
  obtain ⟨rfl, rfl⟩ := List.cons.inj e2
  obtain ⟨a1, ⟨t1, a2⟩, a3, a4, a5, a6, a7⟩ := head_parse hr p1 rfl rfl rfl rfl rfl rfl rfl
  obtain ⟨b1, ⟨t2, b2⟩, b3, b4, b5, b6, b7⟩ := head_parse hx p2 rfl rfl rfl rfl rfl rfl rfl
  have hl : r.share.length = x.share.length := a7.symm.trans b7
  rw [hl] at g1
  have hs : r.share = x.share := g1.symm.trans g2
  have hn : r.name = x.name := by
    have n1 := name_parse (rcOk_bounds hr).1 a2
    have n2 := name_parse (rcOk_bounds hx).1 b2
    have e := n1.1.symm.trans n2.1
    have e2 := congrArg Prod.fst (n1.2.symm.trans n2.2)
    simp only at e2
    rw [e] at e2
    have e3 := List.append_cancel_right e2
    have : r.name.data = x.name.data := by
      apply Array.ext'
      exact e3
    cases hrn : r.name; cases hxn : x.name
    rw [hrn, hxn] at this
    simp only at this
    rw [this]
  simp only [Rc.con, Prod.mk.injEq, List.cons.injEq, and_true]
  exact ⟨⟨by omega, by omega, by omega, by omega, by omega⟩, hn, hs⟩
theorem GotR.one {ss : List (List UInt8)} {M M' : Rc} {n n' : Nat} {ok ok' : Bool} (h : GotR ss M n ok) (h' : GotR ss M' n' ok') : M.con = M'.con ∧ n = n' ∧ ok = ok' := by
  rcases h with ⟨rfl, h1, h2, h3⟩ | ⟨rfl, h1, h2, h3⟩ <;> rcases h' with ⟨rfl, k1, k2, k3⟩ | ⟨rfl, k1, k2, k3⟩
  · have e := put_one h1 k1 h2 k2
    exact ⟨e, by rw [h3, k3, putR_con e], rfl⟩
  · exact absurd h2 (k3 _ h1)
  · exact absurd k2 (h3 _ k1)
  · exact ⟨h1.trans k1.symm, by rw [h2, k2], rfl⟩
end Sh
