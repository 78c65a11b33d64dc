/- The document's Digits, Lower, Token and Text are the program's. -/
import Derived.Test.YtpddbfodjeoofaaDoorRefA
namespace Go.Proofs.YtpddbfodjeoofaaDoor.Pure
open Go.RowKit Go.Proofs.YtpddbfodjeoofaaDoor.PAscii Go.Proofs.YtpddbfodjeoofaaDoorW.PrintWords Go.Proofs.YtpddbfodjeoofaaDoorW.PrintLast
set_option linter.unusedSimpArgs false
set_option linter.unusedVariables false
theorem dbd {n : Int} {c : UInt8} (h : 0 ≤ n ∧ n ≤ 2147483648) (hc : X.isDigit c = true) : 0 ≤ X.dstep n c ∧ X.dstep n c ≤ 2147483648 := X.dstep_bd h hc
theorem rdigits_l0 (l : Bs) (hl : l.length ≤ 500) : ∀ (e i k : Nat) (n : Int), i + e = l.length → e + 1 ≤ k → 0 ≤ n ∧ n ≤ 2147483648 →
    sculleryref01_Digits.l0 k (B l) n i = some (if (l.drop i).all X.isDigit = true then ((l.drop i).foldl X.dstep n, decide (0 < l.length)) else (0, false)) := by
  intro e
  induction e with
  | zero =>
    intro i k n hi hk hn
    obtain ⟨k, rfl⟩ : ∃ j, k = j + 1 := ⟨k - 1, by omega⟩
    simp only [sculleryref01_Digits.l0]
    rw [B_size, if_neg (by omega), List.drop_eq_nil_of_le (by omega)]
    simp
  | succ e ih =>
    intro i k n hi hk hn
    obtain ⟨k, rfl⟩ : ∃ j, k = j + 1 := ⟨k - 1, by omega⟩
    have hlt : i < l.length := by omega
    simp only [sculleryref01_Digits.l0]
    rw [B_size, if_pos (by omega), if_pos (by omega), B_get l i hlt, List.drop_eq_getElem_cons hlt]
    have hb := l[i].toNat_lt
    by_cases h1 : (l[i].toNat : Int) < 48
    · have hd : X.isDigit l[i] = false := by unfold X.isDigit; simp; omega
      rw [if_pos h1, List.all_cons, hd]; rfl
    by_cases h2 : (l[i].toNat : Int) > 57
    · have hd : X.isDigit l[i] = false := by unfold X.isDigit; simp; omega
      rw [if_neg h1, if_pos h2, List.all_cons, hd]; rfl
    have hd : X.isDigit l[i] = true := by unfold X.isDigit; simp; omega
    rw [if_neg h1, if_neg h2, u64 (x := 10 * n) (by omega) (by omega), u64 (x := (l[i].toNat : Int)) (by omega) (by omega), u64 (x := 10 * n + (l[i].toNat : Int)) (by omega) (by omega), u64 (x := 10 * n + (l[i].toNat : Int) - 48) (by omega) (by omega), u64 (x := (i : Int) + 1) (by omega) (by omega)]
    have hs : mn (10 * n + (l[i].toNat : Int) - 48) 2147483648 = X.dstep n l[i] := by
      unfold mn X.dstep
      rw [show 10 * n + (l[i].toNat : Int) - 48 = 10 * n + ((l[i].toNat : Int) - 48) by omega]
    rw [hs]
    have := ih (i + 1) k _ (by omega) (by omega) (dbd hn hd)
    rw [show ((i + 1 : Nat) : Int) = (i : Int) + 1 from rfl] at this
    rw [this, List.all_cons, hd, List.foldl_cons, Bool.true_and]
theorem digits_same (l : Bs) (hl : l.length ≤ 500) (k : Nat) (hk : 502 ≤ k) : sculleryref01_Digits.f k (B l) = X.ascii_Digits.f (B l) := by
  unfold sculleryref01_Digits.f X.ascii_Digits.f
  have := rdigits_l0 l hl l.length 0 k 0 (by omega) (by omega) (by decide)
  rw [show ((0 : Nat) : Int) = 0 from rfl, List.drop_zero] at this
  rw [this, if_pos (show (B l).size ≤ 9223372036854775807 by rw [B_size]; omega), B_toList, allB_B, B_data]
  by_cases h0 : l = []
  · subst h0; rfl
  · have hp : 0 < l.length := List.length_pos_iff.2 h0
    rw [if_neg h0, decide_eq_true hp]; rfl
theorem more_rounds {α : Type} {f : Nat → Option α} (h : ∀ k, LeO (f k) (f (k + 1))) {k j : Nat} (hk : k ≤ j) {r : α} (e : f k = some r) : f j = some r := by
  induction hk with
  | refl => exact e
  | step _ ih => exact h _ _ ih
set_option maxRecDepth 100000 in
theorem rtchar_all : ∀ n : Fin 256, sculleryref01_Tchar.f 20 (n.val : Int) = some (X.isTchar (UInt8.ofNat n.val)) := by decide +kernel
theorem rtchar (c : UInt8) (k : Nat) (hk : 20 ≤ k) : sculleryref01_Tchar.f k (c.toNat : Int) = some (X.isTchar c) := by
  have := rtchar_all ⟨c.toNat, c.toNat_lt⟩
  simp only [UInt8.ofNat_toNat] at this
  exact more_rounds (sculleryref01_Tchar.mono _) hk this
theorem rtoken_l0 (l : Bs) (hl : l.length ≤ 500) : ∀ (e i k : Nat), i + e = l.length → e + 21 ≤ k → sculleryref01_Token.l0 k (B l) i = some ((l.drop i).all X.isTchar && decide (0 < l.length)) := by
  intro e
  induction e with
  | zero =>
    intro i k hi hk
    obtain ⟨k, rfl⟩ : ∃ j, k = j + 1 := ⟨k - 1, by omega⟩
    simp only [sculleryref01_Token.l0]
    rw [B_size, if_neg (by omega), List.drop_eq_nil_of_le (by omega)]
    simp
  | succ e ih =>
    intro i k hi hk
    obtain ⟨k, rfl⟩ : ∃ j, k = j + 1 := ⟨k - 1, by omega⟩
    have hlt : i < l.length := by omega
    simp only [sculleryref01_Token.l0]
    rw [B_size, if_pos (by omega), if_pos (by omega), B_get l i hlt, rtchar _ k (by omega), List.drop_eq_getElem_cons hlt, u64 (x := (i : Int) + 1) (by omega) (by omega)]
    simp only [Option.bind_some, List.all_cons]
    cases ht : X.isTchar l[i]
    · rfl
    · rw [if_pos rfl, Bool.true_and]
      exact ih (i + 1) k (by omega) (by omega)
theorem token_same (l : Bs) (hl : l.length ≤ 500) (k : Nat) (hk : 530 ≤ k) : sculleryref01_Token.f k (B l) = X.ascii_Token.f (B l) := by
  unfold sculleryref01_Token.f
  have := rtoken_l0 l hl l.length 0 k (by omega) (by omega)
  rw [show ((0 : Nat) : Int) = 0 from rfl, List.drop_zero] at this
  rw [this, token_f l hl]
  by_cases h0 : l = []
  · subst h0; rfl
  · rw [if_neg h0, decide_eq_true (List.length_pos_iff.2 h0), Bool.and_true]
theorem trim_same (l : Bs) (hl : l.length ≤ 500) (k : Nat) (hk : 1010 ≤ k) : sculleryref01_Trim.f k (B l) = X.ascii_Trim.f (B l) := by
  rw [trim_f l hl, rtrim l.length l k (Nat.le_refl _) (by omega) (by omega)]
end Go.Proofs.YtpddbfodjeoofaaDoor.Pure
