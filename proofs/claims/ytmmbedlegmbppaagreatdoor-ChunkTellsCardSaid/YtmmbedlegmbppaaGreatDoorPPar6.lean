/- The document reads heads as the program does. -/
import Derived.Test.YtmmbedlegmbppaaGreatDoorPPar
namespace Go.Proofs.YtmmbedlegmbppaaGreatDoor.R
open Go Go.RowKit
set_option linter.unusedSimpArgs false
set_option linter.unusedVariables false
def cS (one : Bs) (i : Nat) : Int := match cutAt 58 (one.drop i) with
  | some (a, _) => ((a.length + i : Nat) : Int)
  | none => -1
theorem cS_step (one : Bs) (i : Nat) (h : i < one.length) : cS one i = if one[i] = 58 then (i : Int) else cS one (i + 1) := by
  unfold cS
  rw [List.drop_eq_getElem_cons h]
  show (match (if one[i] = 58 then some ([], one.drop (i + 1)) else (cutAt 58 (one.drop (i + 1))).map fun p => (one[i] :: p.1, p.2)) with
    | some (a, _) => ((a.length + i : Nat) : Int)
    | none => -1) = _
  by_cases h58 : one[i] = 58
  · rw [if_pos h58, if_pos h58]; simp
  · rw [if_neg h58, if_neg h58]
    cases cutAt 58 (one.drop (i + 1)) with
    | none => rfl
    | some p =>
      show ((one[i] :: p.1).length + i : Nat) = ((p.1.length + (i + 1) : Nat) : Int)
      rw [List.length_cons]; omega
theorem r6inner (K : Nat) (hK : 3000 ≤ K) (r0 : _) (l0 : Bs) (out : List Fld) (ho : out.length ≤ 64) (at' : Int) (one : Bs) (h1 : one.length ≤ 2000) :
    ∀ i m : Nat, i ≤ one.length → i + 1 ≤ m → iter (ref06_Parse.l2b K r0) m (B l0, out, at', B one, cS one i, (i : Int) - 1) = (match fieldM one with
      | none => some ([], 0, 2)
      | some f => r0 (B l0, out ++ [(B f.1, B f.2)], at')) := by
  intro i
  induction i with
  | zero =>
    intro m hi hm
    obtain ⟨m, rfl⟩ : ∃ j, m = j + 1 := ⟨m - 1, by omega⟩
    show ref06_Parse.l2b K r0 (iter (ref06_Parse.l2b K r0) m) _ = _
    generalize iter (ref06_Parse.l2b K r0) m = r
    unfold ref06_Parse.l2b
    simp only [leD, ltD, ifO_dec]
    rw [if_neg (by omega)]
    unfold cS fieldM
    rw [List.drop_zero]
    cases hc : cutAt 58 one with
    | none => rfl
    | some p =>
      obtain ⟨a, b⟩ := p
      obtain ⟨e1, e2⟩ := cutAt_some hc
      have hlen : one.length = a.length + (b.length + 1) := by rw [e1]; simp
      have hs := strip_le b
      simp only
      rw [if_neg (by omega), B_len, Nat.add_zero, boundB_yes (by omega), show boundB 0 (a.length : Int) = true from boundB_yes (i := 0) (by omega), show andB true true = true from rfl, ifO_true, next64 (by omega), boundB_yes (Nat.le_refl _), boundB_yes (by omega), show andB true true = true from rfl, ifO_true]
      rw [show cutS (B one) 0 (a.length : Int) = B ((one.take a.length).drop 0) from B_cut one 0 a.length, B_cut, List.take_of_length_le (Nat.le_refl _), List.drop_zero, show one.take a.length = a by rw [e1]; exact List.take_left' rfl, show one.drop (a.length + 1) = b by rw [e1, show a ++ 58 :: b = (a ++ [58]) ++ b by simp]; exact List.drop_left' (by simp)]
      rw [r1trim b (by omega) K (by omega), bindO_some, r1token a (by omega) K (by omega) (by omega), bindO_some, r1text (strip b) (by omega) K (by omega), bindO_some, r1lower a (by omega) K (by omega), bindO_some]
      cases tokB a with
      | false => rfl
      | true =>
        cases txtB (strip b) with
        | false => rfl
        | true =>
          rw [if_pos ⟨rfl, rfl⟩]
          have hf : fitsL (lenL out) (lenL ((B (lowL a), B (strip b)) :: ([] : List (ByteArray × ByteArray)))) 32 = true := fitsL_yes (n := out.length) (m := 1) (by omega) (by omega)
          rw [show notB true = false from rfl, ifO_false, ifO_false, hf, ifO_true]
          rfl
  | succ i ih =>
    intro m hi hm
    obtain ⟨m, rfl⟩ : ∃ j, m = j + 1 := ⟨m - 1, by omega⟩
    have hi' := ih m (by omega) (by omega)
    show ref06_Parse.l2b K r0 (iter (ref06_Parse.l2b K r0) m) _ = _
    generalize iter (ref06_Parse.l2b K r0) m = r at hi' ⊢
    unfold ref06_Parse.l2b ref06_Parse.j3
    simp only [leD, ifO_dec]
    rw [show ((i + 1 : Nat) : Int) - 1 = (i : Int) by omega, if_pos (by omega), B_len, inB_yes (by omega), ifO_true, B_at (show i < one.length by omega), show eqI ((one[i]'(by omega)).toNat : Int) 58 = decide (one[i]'(by omega) = 58) from eq_byte _ 58, ifO_dec, sub64 (by omega) (by omega)]
    rw [cS_step one i (by omega)] at hi'
    by_cases h58 : one[i]'(by omega) = 58
    · rw [if_pos h58] at hi' ⊢; exact hi'
    · rw [if_neg h58] at hi' ⊢; exact hi'
theorem drop_tail {l m r : Bs} (h : l = m ++ 13 :: 10 :: r) : l.drop (l.length - r.length) = r := by
  subst h
  rw [show m ++ 13 :: 10 :: r = (m ++ [13, 10]) ++ r by simp]
  exact List.drop_left' (by simp only [List.length_append]; omega)
theorem r6parse_loop (l0 : Bs) (h0 : l0.length ≤ 100000) (K : Nat) (hK : 100010 ≤ K) : ∀ (n m : Nat) (l : Bs) (at' : Nat) (out : List Fld), l.length < n → n ≤ m → at' + l.length = l0.length → l0.drop at' = l → out.length ≤ 64 → iter (ref06_Parse.l0b K) m (B l0, out, (at' : Int)) = some (parseR l0.length (parseM n l out)) := by
  intro n
  induction n with
  | zero => intro m l a out h; omega
  | succ n ih =>
    intro m l a out hn hm ha hd ho
    obtain ⟨m, rfl⟩ : ∃ j, m = j + 1 := ⟨m - 1, by omega⟩
    show ref06_Parse.l0b K (iter (ref06_Parse.l0b K) m) _ = _
    generalize hr : iter (ref06_Parse.l0b K) m = r
    unfold ref06_Parse.l0b parseM
    simp only
    rw [B_len, boundB_yes (Nat.le_refl _), boundB_yes (by omega), show andB true true = true from rfl, ifO_true, B_cut, List.take_of_length_le (Nat.le_refl _), hd, r6line l (by omega) K (by omega), bindO_some, neI_dec, ifO_dec]
    simp only
    by_cases he : (lineM l).2.2 = 0
    · obtain ⟨h1, h2, h3⟩ := lineM_ok he
      have hlen : l.length = (lineM l).1.length + ((lineM l).2.1.length + 2) := by
        have := congrArg List.length h1
        simp only [List.length_append, List.length_cons] at this
        omega
      rw [if_pos he, if_neg (show ¬ (lineM l).2.2 ≠ 0 by omega), if_neg (show ¬ ¬ (lineM l).2.2 = 0 by omega), show (⟨#[]⟩ : ByteArray) = B [] from rfl, B_eq, ifO_dec, add64 (by omega) (by omega), show (a : Int) + ((l.length - (lineM l).2.1.length : Nat) : Int) = ((a + (l.length - (lineM l).2.1.length) : Nat) : Int) from rfl]
      by_cases hn0 : (lineM l).1 = []
      · rw [if_pos hn0, if_pos hn0]
        unfold parseR
        rw [if_pos rfl, show a + (l.length - (lineM l).2.1.length) = l0.length - (lineM l).2.1.length by omega]
      · rw [if_neg hn0, if_neg hn0, lenL_nat, leD, ifO_dec]
        by_cases h64 : out.length = 64
        · rw [if_pos (by omega), if_pos h64]; rfl
        · rw [if_neg (by omega), if_neg h64, B_len, sub64 (by omega) (by omega)]
          have e := r6inner K (by omega) r l0 out (by omega) ((a + (l.length - (lineM l).2.1.length) : Nat) : Int) (lineM l).1 h2 (lineM l).1.length K (Nat.le_refl _) (by omega)
          rw [show cS (lineM l).1 (lineM l).1.length = -1 by unfold cS; rw [List.drop_length]; rfl] at e
          unfold ref06_Parse.l2
          refine e.trans ?_
          cases hf : fieldM (lineM l).1 with
          | none => rfl
          | some f =>
            subst hr
            refine ih m (lineM l).2.1 (a + (l.length - (lineM l).2.1.length)) (out ++ [(B f.1, B f.2)]) (by omega) (by omega) (by omega) ?_ (by rw [List.length_append]; show _ + 1 ≤ 64; omega)
            rw [← List.drop_drop, hd]
            exact drop_tail h1
    · rw [if_pos he, if_pos he]
      unfold parseR
      rw [if_neg he]
theorem r6parse (l : Bs) (h : l.length ≤ 100000) (k : Nat) (hk : 100010 ≤ k) : ref06_Parse.f k (B l) = some (parseV l) := by
  unfold ref06_Parse.f ref06_Parse.l0
  exact r6parse_loop l h k hk (l.length + 1) k l 0 [] (by omega) (by omega) (by omega) rfl (by simp)
end Go.Proofs.YtmmbedlegmbppaaGreatDoor.R
