/- Chunked bodies: written, by both sides. -/
import Derived.Test.YtmmbedlegmbppaaDoorPChk4
namespace Go.Proofs.YtmmbedlegmbppaaDoor.R
open Go Go.RowKit
set_option linter.unusedSimpArgs false
set_option linter.unusedVariables false
theorem hexd_is : ∀ m : Fin 16, (([48, 49, 50, 51, 52, 53, 54, 55, 56, 57, 97, 98, 99, 100, 101, 102] : Bs).take (m.val + 1)).drop m.val = [hexd m.val] := by decide +kernel
theorem hexS_len : ∀ (f n : Nat), (hexS f n).length ≤ f
  | 0, n => Nat.le_refl _
  | f + 1, n => by
    unfold hexS
    split
    · simp
    · have := hexS_len f (n / 16)
      rw [List.length_append]; simpa using this
theorem fmt_is (m k : Nat) (hm : m < 4294967296) : x_FormatInt.f k ((m : Int), (16 : Int)) = some (B (hexS 9 m)) := by
  unfold x_FormatInt.f
  rw [if_pos (show 0 ≤ (m : Int) ∧ (m : Int) < 4294967296 ∧ (16 : Int) = 16 from ⟨by omega, by omega, rfl⟩)]
  rfl
def encM : Nat → Nat → Bs → Bs → Bs
  | 0, _, _, _ => []
  | f + 1, s, l, out => if l = [] then out ++ [48, 13, 10, 13, 10] else encM f s (l.drop (min s l.length)) (out ++ (hexS 9 (min s l.length) ++ [13, 10] ++ l.take (min s l.length) ++ [13, 10]))
theorem min_is (s : Int) (hs : 1 ≤ s) (n : Nat) : minI s (n : Int) = ((min s.toNat n : Nat) : Int) := by rw [minI_eq]; omega
theorem enc_loop (s : Int) (hs : 1 ≤ s) (K : Nat) : ∀ (n m : Nat) (l out : Bs), l.length < n → n ≤ m → l.length ≤ 100000 → out.length + 14 * l.length ≤ 1400000 → iter (chunk_Encode.l0b K) m (B l, s, nums out) = some (B (encM n s.toNat l out), 0) := by
  intro n
  induction n with
  | zero => intro m l out h; omega
  | succ n ih =>
    intro m l out hn hm hl ho
    obtain ⟨m, rfl⟩ : ∃ j, m = j + 1 := ⟨m - 1, by omega⟩
    show chunk_Encode.l0b K (iter (chunk_Encode.l0b K) m) _ = _
    generalize hr : iter (chunk_Encode.l0b K) m = r
    unfold chunk_Encode.l0b encM
    simp only
    rw [show (⟨#[]⟩ : ByteArray) = B [] from rfl, show (⟨#[48]⟩ : ByteArray) = B [48] from rfl, show (⟨#[13, 10]⟩ : ByteArray) = B [13, 10] from rfl, B_eq, nums_of]
    by_cases h0 : l = []
    · rw [decide_eq_true h0, show notB true = false from rfl, ifO_false, if_pos h0, B_fits, decide_eq_true (by simp; omega), ifO_true, B_cat, B_fits, decide_eq_true (by simp; omega), ifO_true, B_cat, B_fits, decide_eq_true (by simp; omega), ifO_true, B_cat]
      simp
    · have hpos : 1 ≤ l.length := by cases l with
        | nil => exact absurd rfl h0
        | cons c m => simp
      rw [decide_eq_false h0, show notB false = true from rfl, ifO_true, if_neg h0, B_len, min_is s hs]
      have hp1 : 1 ≤ min s.toNat l.length := by omega
      have hp2 : min s.toNat l.length ≤ l.length := by omega
      generalize min s.toNat l.length = p at *
      have hx := hexS_len 9 p
      have htk : (l.take p).length = p := by rw [List.length_take]; omega
      rw [boundB_yes hp2, show boundB 0 (p : Int) = true from boundB_yes (i := 0) (Nat.zero_le _), show andB true true = true from rfl, ifO_true, fmt_is p K (by omega), bindO_some, show cutS (B l) 0 (p : Int) = B (l.take p) from (B_cut l 0 p).trans (by rw [List.drop_zero])]
      rw [B_fits, decide_eq_true (by simp; omega), ifO_true, B_cat, B_fits, decide_eq_true (by simp; omega), ifO_true, B_cat, B_fits, decide_eq_true (by simp; omega), ifO_true, B_cat, B_len, lenL_nat, nums_len]
      rw [fitsL_yes (by simp; omega) (by simp; omega), ifO_true, boundB_yes (Nat.le_refl _), show andB true true = true from rfl, ifO_true, B_cut, List.take_length, nums_cat]
      subst hr
      exact ih m (l.drop p) _ (by rw [List.length_drop]; omega) (by omega) (by rw [List.length_drop]; omega) (by simp only [List.length_append, List.length_drop, htk, List.length_cons, List.length_nil]; omega)
def encR (l : Bs) (s : Int) : ByteArray × Int := if s < 1 then (B [], 1) else if 100000 < l.length then (B [], 4) else (B (encM (l.length + 1) s.toNat l []), 0)
theorem enc_is (l : Bs) (s : Int) (k : Nat) (hk : 100010 ≤ k) : chunk_Encode.f k (B l, s) = some (encR l s) := by
  unfold chunk_Encode.f chunk_Encode.l0 encR
  rw [ltD, ifO_dec]
  by_cases h1 : s < 1
  · rw [if_pos h1, if_pos h1]; rfl
  rw [if_neg h1, if_neg h1, B_len, show ltI 100000 (l.length : Int) = decide (100000 < l.length) from ltI_nat 100000 l.length, ifO_dec]
  by_cases h2 : 100000 < l.length
  · rw [if_pos h2, if_pos h2]; rfl
  rw [if_neg h2, if_neg h2]
  exact enc_loop s (by omega) k (l.length + 1) k l [] (by omega) (by omega) (by omega) (by simp; omega)
end Go.Proofs.YtmmbedlegmbppaaDoor.R
