/- Chunked bodies: read, by both sides. -/
import Derived.Test.YtmmbedlegmbppaaDoorPChk2
namespace Go.Proofs.YtmmbedlegmbppaaDoor.R
open Go Go.RowKit
set_option linter.unusedSimpArgs false
set_option linter.unusedVariables false
def nums (l : Bs) : List Int := l.map fun c => (c.toNat : Int)
theorem nums_cat (l m : Bs) : catL (nums l) (bytesI (B m)) = nums (l ++ m) := by
  rw [B_bytes]; exact (List.map_append).symm
theorem nums_len (l : Bs) : (nums l).length = l.length := List.length_map ..
theorem nums_of (l : Bs) : ofBytes (nums l) = B l := B_ofBytes l
theorem sizeM_lt {l : Bs} {n : Nat} (h : sizeM l = some n) : n < 4294967296 := by
  unfold sizeM at h
  split at h
  · rename_i h18
    split at h
    · exact hexL_lt8 _ n h h18.2
    · split at h
      · cases h
      · split at h
        · exact hexL_lt8 _ n h h18.2
        · cases h
  · cases h
theorem parseV_le (b : Bs) : ∃ q : Nat, (parseV b).2.1 = (q : Int) ∧ q ≤ b.length := by
  unfold parseV parseR
  split
  · exact ⟨_, rfl, by omega⟩
  · exact ⟨0, rfl, by omega⟩
def decM : Nat → Nat → Bs → Bs → ByteArray × Int × Int
  | 0, _, _, _ => (B [], 0, 9)
  | f + 1, L, l, body =>
    if ¬ (lineM l).2.2 = 0 then (B [], 0, (lineM l).2.2) else match sizeM (lineM l).1 with
      | none => (B [], 0, 2)
      | some n =>
        if 100000 < body.length + n then (B [], 0, 4) else if n = 0 then
          (if ¬ (parseV (lineM l).2.1).2.2 = 0 then (B [], 0, (parseV (lineM l).2.1).2.2) else (B body, ((L - (lineM l).2.1.length : Nat) : Int) + (parseV (lineM l).2.1).2.1, 0))
        else if (lineM l).2.1.length < n + 2 then (B [], 0, 3) else
          if ((lineM l).2.1.take (n + 2)).drop n = [13, 10] then decM f L ((lineM l).2.1.drop (n + 2)) (body ++ (lineM l).2.1.take n) else (B [], 0, 2)
theorem two_at (b : Bs) (n : Nat) (h : n + 2 ≤ b.length) : (b.take (n + 2)).drop n = [b[n], b[n + 1]] := by
  have h1 : n < (b.take (n + 2)).length := by rw [List.length_take]; omega
  have h2 : n + 1 < (b.take (n + 2)).length := by rw [List.length_take]; omega
  rw [List.drop_eq_getElem_cons h1, List.drop_eq_getElem_cons h2, List.drop_eq_nil_of_le (by rw [List.length_take]; omega), List.getElem_take, List.getElem_take]
theorem dec_loop (l0 : Bs) (h0 : l0.length ≤ 100000) (K : Nat) (hK : 100010 ≤ K) : ∀ (n m : Nat) (l body : Bs), l.length < n → n ≤ m → body.length + l.length ≤ l0.length → iter (chunk_Decode.l0b K) m (B l0, B l, nums body) = some (decM n l0.length l body) := by
  intro n
  induction n with
  | zero => intro m l body h; omega
  | succ n ih =>
    intro m l body hn hm hl
    obtain ⟨m, rfl⟩ : ∃ j, m = j + 1 := ⟨m - 1, by omega⟩
    show chunk_Decode.l0b K (iter (chunk_Decode.l0b K) m) _ = _
    generalize hr : iter (chunk_Decode.l0b K) m = r
    unfold chunk_Decode.l0b decM
    simp only
    rw [cline_is l (by omega), bindO_some, neI_dec, ifO_dec]
    simp only
    by_cases he : (lineM l).2.2 = 0
    · obtain ⟨h1, h2, h3⟩ := lineM_ok he
      have hlen : l.length = (lineM l).1.length + ((lineM l).2.1.length + 2) := by
        have := congrArg List.length h1
        simp only [List.length_append, List.length_cons] at this
        omega
      rw [if_neg (show ¬ (lineM l).2.2 ≠ 0 by omega), if_neg (show ¬ ¬ (lineM l).2.2 = 0 by omega)]
      generalize (lineM l).2.1 = b at *
      obtain ⟨mz, hz⟩ := csize_is (lineM l).1 (by omega) K
      rw [hz, bindO_some]
      unfold sizeR
      cases hs : sizeM (lineM l).1 with
      | none => rfl
      | some z =>
        have hzl := sizeM_lt hs
        dsimp only
        rw [show notB true = false from rfl, ifO_false, lenL_nat, nums_len, add64 (by omega) (by omega), show ltI 100000 ((body.length : Int) + (z : Int)) = decide (100000 < body.length + z) from ltI_nat 100000 (body.length + z), ifO_dec]
        by_cases hbig : 100000 < body.length + z
        · rw [if_pos hbig, if_pos hbig]; rfl
        rw [if_neg hbig, if_neg hbig, eqI_dec, ifO_dec]
        by_cases hz0 : z = 0
        · obtain ⟨q, hq, hqb⟩ := parseV_le b
          rw [if_pos (by omega), if_pos hz0, parse_is b (by omega) K hK, bindO_some, neI_dec, ifO_dec]
          by_cases hp : (parseV b).2.2 = 0
          · rw [if_neg (show ¬ (parseV b).2.2 ≠ 0 by omega), if_neg (show ¬ ¬ (parseV b).2.2 = 0 by omega), hq, nums_of, B_len, B_len, sub64 (by omega) (by omega), add64 (by omega) (by omega), show (l0.length : Int) - (b.length : Int) = ((l0.length - b.length : Nat) : Int) by omega]
          · rw [if_pos hp, if_pos hp]; rfl
        rw [if_neg (show ¬ (z : Int) = 0 by omega), if_neg hz0, B_len, add64 (by omega) (by omega), show ltI (b.length : Int) ((z : Int) + 2) = decide (b.length < z + 2) from ltI_nat b.length (z + 2), ifO_dec]
        by_cases hsh : b.length < z + 2
        · rw [if_pos hsh, if_pos hsh]; rfl
        rw [if_neg hsh, if_neg hsh, show (z : Int) + 2 = ((z + 2 : Nat) : Int) from rfl, boundB_yes (show z + 2 ≤ b.length by omega), boundB_yes (show z ≤ z + 2 by omega), show andB true true = true from rfl, ifO_true, B_cut, show (⟨#[13, 10]⟩ : ByteArray) = B [13, 10] from rfl, B_eq]
        by_cases hcr : (b.take (z + 2)).drop z = [13, 10]
        · rw [decide_eq_true hcr, show notB true = false from rfl, ifO_false, if_pos hcr, boundB_yes (show z ≤ b.length by omega), show boundB 0 (z : Int) = true from boundB_yes (i := 0) (Nat.zero_le _), show andB true true = true from rfl, ifO_true, show cutS (B b) 0 (z : Int) = B (b.take z) from (B_cut b 0 z).trans (by rw [List.drop_zero]), B_len, fitsL_yes (n := body.length) (m := (b.take z).length) (by rw [List.length_take]; omega) (by rw [List.length_take]; omega), ifO_true, boundB_yes (Nat.le_refl _), show andB true true = true from rfl, ifO_true, B_cut, List.take_length, nums_cat]
          subst hr
          exact ih m (b.drop (z + 2)) (body ++ b.take z) (by rw [List.length_drop]; omega) (by omega) (by rw [List.length_append, List.length_take, List.length_drop]; omega)
        · rw [decide_eq_false hcr, show notB false = true from rfl, ifO_true, if_neg hcr]; rfl
    · rw [if_pos he, if_pos he]; rfl
theorem dec_is (l : Bs) (h : l.length ≤ 100000) (k : Nat) (hk : 100010 ≤ k) : chunk_Decode.f k (B l) = some (decM (l.length + 1) l.length l []) := by
  unfold chunk_Decode.f chunk_Decode.l0
  exact dec_loop l h k hk (l.length + 1) k l [] (by omega) (by omega) (by simp)
end Go.Proofs.YtmmbedlegmbppaaDoor.R
