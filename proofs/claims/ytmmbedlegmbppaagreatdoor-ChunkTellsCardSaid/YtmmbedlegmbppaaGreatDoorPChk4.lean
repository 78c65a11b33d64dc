/- Chunked bodies: the document reads them alike. -/
import Derived.Test.YtmmbedlegmbppaaGreatDoorPChk3
namespace Go.Proofs.YtmmbedlegmbppaaGreatDoor.R
open Go Go.RowKit
set_option linter.unusedSimpArgs false
set_option linter.unusedVariables false
theorem r7dec_loop (l0 : Bs) (h0 : l0.length ≤ 100000) (K : Nat) (hK : 100010 ≤ K) : ∀ (n m : Nat) (l body : Bs) (at' : Nat), l.length < n → n ≤ m → at' + l.length = l0.length → l0.drop at' = l → body.length + l.length ≤ l0.length → iter (ref07_Decode.l0b K) m (B l0, B body, (at' : Int)) = some (decM n l0.length l body) := by
  intro n
  induction n with
  | zero => intro m l body a h; omega
  | succ n ih =>
    intro m l body a hn hm ha hd hl
    obtain ⟨m, rfl⟩ : ∃ j, m = j + 1 := ⟨m - 1, by omega⟩
    show ref07_Decode.l0b K (iter (ref07_Decode.l0b K) m) _ = _
    generalize hr : iter (ref07_Decode.l0b K) m = r
    unfold ref07_Decode.l0b decM
    simp only
    rw [B_len, boundB_yes (Nat.le_refl _), boundB_yes (show a ≤ l0.length by omega), show andB true true = true from rfl, ifO_true, B_cut, List.take_length, hd, r6line l (by omega) K (by omega), bindO_some, neI_dec, ifO_dec]
    simp only
    by_cases he : (lineM l).2.2 = 0
    · obtain ⟨h1, h2, h3⟩ := lineM_ok he
      have hlen : l.length = (lineM l).1.length + ((lineM l).2.1.length + 2) := by
        have := congrArg List.length h1
        simp only [List.length_append, List.length_cons] at this
        omega
      have hdb : l0.drop (a + (l.length - (lineM l).2.1.length)) = (lineM l).2.1 := by
        rw [← List.drop_drop, hd]
        exact drop_tail h1
      rw [if_pos he, if_neg (show ¬ (lineM l).2.2 ≠ 0 by omega), if_neg (show ¬ ¬ (lineM l).2.2 = 0 by omega)]
      generalize (lineM l).2.1 = b at *
      rw [add64 (by omega) (by omega), show (a : Int) + ((l.length - b.length : Nat) : Int) = ((a + (l.length - b.length) : Nat) : Int) from rfl]
      generalize hc : a + (l.length - b.length) = c at *
      have hcl : c + b.length = l0.length := by omega
      rw [r7size (lineM l).1 (by omega) K hK, bindO_some]
      unfold sizeR
      cases hs : sizeM (lineM l).1 with
      | none => rfl
      | some z =>
        have hzl := sizeM_lt hs
        dsimp only
        rw [show notB true = false from rfl, ifO_false, B_len, add64 (by omega) (by omega), show ltI 100000 ((body.length : Int) + (z : Int)) = decide (100000 < body.length + z) from ltI_nat 100000 (body.length + z), ifO_dec]
        by_cases hbig : 100000 < body.length + z
        · rw [if_pos hbig, if_pos hbig]; rfl
        rw [if_neg hbig, if_neg hbig, eqI_dec, ifO_dec]
        by_cases hz0 : z = 0
        · obtain ⟨q, hq, hqb⟩ := parseV_le b
          rw [if_pos (show (z : Int) = 0 by omega), if_pos hz0, boundB_yes (show c ≤ l0.length by omega), show andB true true = true from rfl, ifO_true, B_cut, List.take_length, hdb, r6parse b (by omega) K hK, bindO_some, neI_dec, ifO_dec]
          by_cases hp : (parseV b).2.2 = 0
          · rw [if_neg (show ¬ (parseV b).2.2 ≠ 0 by omega), if_neg (show ¬ ¬ (parseV b).2.2 = 0 by omega), hq, add64 (by omega) (by omega), show l0.length - b.length = c by omega]
          · rw [if_pos hp, if_pos hp]; rfl
        rw [if_neg (show ¬ (z : Int) = 0 by omega), if_neg hz0, sub64 (by omega) (by omega), add64 (by omega) (by omega), show (l0.length : Int) - (c : Int) = (b.length : Int) by omega, show ltI (b.length : Int) ((z : Int) + 2) = decide (b.length < z + 2) from ltI_nat b.length (z + 2), ifO_dec]
        by_cases hsh : b.length < z + 2
        · rw [if_pos hsh, if_pos hsh]; rfl
        have g1 : c + z < l0.length := by omega
        have g2 : c + z + 1 < l0.length := by omega
        have b1 : l0[c + z] = b[z] := by
          have := List.getElem_drop (xs := l0) (i := c) (j := z) (h := by rw [hdb]; omega)
          simp only [hdb] at this
          exact this.symm
        have b2 : l0[c + z + 1] = b[z + 1] := by
          have := List.getElem_drop (xs := l0) (i := c) (j := z + 1) (h := by rw [hdb]; omega)
          simp only [hdb] at this
          exact this.symm
        rw [if_neg hsh, if_neg hsh, add64 (by omega) (by omega), show (c : Int) + (z : Int) = ((c + z : Nat) : Int) from rfl, next64 (by omega), inB_yes g1, ifO_true, inB_yes g2, ifO_true, B_at g1, B_at g2, show neI (l0[c + z].toNat : Int) 13 = decide (¬ l0[c + z] = 13) from ne_byte _ 13, show neI (l0[c + z + 1].toNat : Int) 10 = decide (¬ l0[c + z + 1] = 10) from ne_byte _ 10, b1, b2, two_at b z (by omega), ifO_dec, ifO_dec]
        by_cases h13 : b[z] = 13
        · rw [if_neg (fun h => h h13)]
          by_cases h10 : b[z + 1] = 10
          · have hcut : cutS (B l0) (c : Int) ((c + z : Nat) : Int) = B (b.take z) := by
              rw [B_cut, ← hdb, List.drop_take]
              congr 2
              omega
            rw [if_neg (fun h => h h10), if_pos (by rw [h13, h10]), boundB_yes (show c + z ≤ l0.length by omega), boundB_yes (show c ≤ c + z by omega), show andB true true = true from rfl, ifO_true, hcut, B_fits, decide_eq_true (by rw [List.length_take]; omega), ifO_true, B_cat, add64 (by omega) (by omega)]
            subst hr
            refine ih m (b.drop (z + 2)) (body ++ b.take z) (c + z + 2) (by rw [List.length_drop]; omega) (by omega) (by rw [List.length_drop]; omega) ?_ (by rw [List.length_append, List.length_take, List.length_drop]; omega)
            rw [← hdb, List.drop_drop, Nat.add_assoc]
          · rw [if_pos h10, if_neg (by rw [h13]; simp [h10])]; rfl
        · rw [if_pos h13, if_neg (by simp [h13])]; rfl
    · rw [if_pos he, if_pos he]; rfl
theorem r7dec (l : Bs) (h : l.length ≤ 100000) (k : Nat) (hk : 100010 ≤ k) : ref07_Decode.f k (B l) = some (decM (l.length + 1) l.length l []) := by
  unfold ref07_Decode.f ref07_Decode.l0
  exact r7dec_loop l h k hk (l.length + 1) k l [] 0 (by omega) (by omega) (by omega) rfl (by simp)
end Go.Proofs.YtmmbedlegmbppaaGreatDoor.R
