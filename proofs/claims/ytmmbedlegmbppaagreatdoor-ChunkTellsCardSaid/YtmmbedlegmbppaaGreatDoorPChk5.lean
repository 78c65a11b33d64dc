/- Chunked bodies: written, by both sides. -/
import Derived.Test.YtmmbedlegmbppaaGreatDoorPChk4
namespace Go.Proofs.YtmmbedlegmbppaaGreatDoor.R
open Go Go.RowKit
set_option linter.unusedSimpArgs false
set_option linter.unusedVariables false
theorem hexd_is : ∀ m : Fin 16, (([48, 49, 50, 51, 52, 53, 54, 55, 56, 57, 97, 98, 99, 100, 101, 102] : Bs).take (m.val + 1)).drop m.val = [hexd m.val] := by decide +kernel
theorem hexS_len : ∀ (f n : Nat), (hexS f n).length ≤ f
  | 0, n => Nat.le_refl _
  | f + 1, n => by
    unfold hexS
    split
    · simp
    · have := hexS_len f (n / 16)
      rw [List.length_append]; simpa using this
theorem r7hex_low (d k m : Nat) (hm : m < 16) (hd : 1 ≤ d) : ref07_hex.r d k (m : Int) = some (B [hexd m]) := by
  obtain ⟨d, rfl⟩ : ∃ j, d = j + 1 := ⟨d - 1, by omega⟩
  show ref07_hex.g (ref07_hex.r d) k (m : Int) = _
  unfold ref07_hex.g
  rw [show ltI (m : Int) 16 = decide (m < 16) from ltI_nat m 16, decide_eq_true hm, ifO_true, next64 (by omega), B_lit, B_len, boundB_yes (show m + 1 ≤ (#[48, 49, 50, 51, 52, 53, 54, 55, 56, 57, 97, 98, 99, 100, 101, 102] : Array UInt8).toList.length from hm), boundB_yes (show m ≤ m + 1 by omega), show andB true true = true from rfl, ifO_true, B_cut]
  exact congrArg (fun l => some (B l)) (hexd_is ⟨m, hm⟩)
theorem r7hex_r : ∀ (f d k m : Nat), m < 16 ^ (f + 1) → m < 4294967296 → f ≤ 100 → f + 2 ≤ d → ref07_hex.r d k (m : Int) = some (B (hexS (f + 1) m))
  | 0, d, k, m, h, hm, hf, hd => by
    unfold hexS
    rw [if_pos (by simpa using h)]
    exact r7hex_low d k m (by simpa using h) (by omega)
  | f + 1, d, k, m, h, hm, hf, hd => by
    unfold hexS
    by_cases h16 : m < 16
    · rw [if_pos h16]
      exact r7hex_low d k m h16 (by omega)
    rw [if_neg h16]
    obtain ⟨d, rfl⟩ : ∃ j, d = j + 1 := ⟨d - 1, by omega⟩
    show ref07_hex.g (ref07_hex.r d) k (m : Int) = _
    unfold ref07_hex.g
    have e1 : quoI .i64 (m : Int) 16 = ((m / 16 : Nat) : Int) := by unfold quoI; rw [Int.tdiv_eq_ediv_of_nonneg (by omega), w64 (by omega) (by omega)]; omega
    have e2 : remI (m : Int) 16 = ((m % 16 : Nat) : Int) := by unfold remI; rw [Int.tmod_eq_emod_of_nonneg (by omega)]; omega
    have hq : m / 16 < 16 ^ (f + 1) := by rw [Nat.pow_succ] at h; omega
    have hl := hexS_len (f + 1) (m / 16)
    rw [show ltI (m : Int) 16 = decide (m < 16) from ltI_nat m 16, decide_eq_false h16, ifO_false, show neI 16 0 = true from rfl, ifO_true, e1, e2, r7hex_r f d k (m / 16) hq (by omega) (by omega) (by omega), bindO_some, ifO_true, r7hex_low d k (m % 16) (by omega) (by omega), bindO_some, B_fits]
    rw [decide_eq_true (by simp only [List.length_cons, List.length_nil]; omega), ifO_true, B_cat]
theorem r7hex (m k : Nat) (hm : m < 4294967296) (hk : 12 ≤ k) : ref07_hex.f k (m : Int) = some (B (hexS 9 m)) := r7hex_r 8 k k m (Nat.lt_of_lt_of_le hm (by decide)) hm (by omega) (by omega)
theorem fmt_is (m k : Nat) (hm : m < 4294967296) : x_FormatInt.f k ((m : Int), (16 : Int)) = some (B (hexS 9 m)) := by
  unfold x_FormatInt.f
  rw [if_pos (show 0 ≤ (m : Int) ∧ (m : Int) < 4294967296 ∧ (16 : Int) = 16 from ⟨by omega, by omega, rfl⟩)]
  rfl
def encM : Nat → Nat → Bs → Bs → Bs
  | 0, _, _, _ => []
  | f + 1, s, l, out => if l = [] then out ++ [48, 13, 10, 13, 10] else encM f s (l.drop (min s l.length)) (out ++ (hexS 9 (min s l.length) ++ [13, 10] ++ l.take (min s l.length) ++ [13, 10]))
theorem min_is (s : Int) (hs : 1 ≤ s) (n : Nat) : minI s (n : Int) = ((min s.toNat n : Nat) : Int) := by rw [minI_eq]; omega
theorem enc_loop (s : Int) (hs : 1 ≤ s) (K : Nat) : ∀ (n m : Nat) (l out : Bs), l.length < n → n ≤ m → l.length ≤ 100000 → out.length + 14 * l.length ≤ 1400000 → iter (chunk_Encode.l0b K) m (B l, s, nums out) = some (B (encM n s.toNat l out), 0) := by
  intro n
  induction n with
  | zero => intro m l out h; omega
  | succ n ih =>
    intro m l out hn hm hl ho
    obtain ⟨m, rfl⟩ : ∃ j, m = j + 1 := ⟨m - 1, by omega⟩
    show chunk_Encode.l0b K (iter (chunk_Encode.l0b K) m) _ = _
    generalize hr : iter (chunk_Encode.l0b K) m = r
    unfold chunk_Encode.l0b encM
    simp only
    rw [show (⟨#[]⟩ : ByteArray) = B [] from rfl, show (⟨#[48]⟩ : ByteArray) = B [48] from rfl, show (⟨#[13, 10]⟩ : ByteArray) = B [13, 10] from rfl, B_eq, nums_of]
    by_cases h0 : l = []
    · rw [decide_eq_true h0, show notB true = false from rfl, ifO_false, if_pos h0, B_fits, decide_eq_true (by simp; omega), ifO_true, B_cat, B_fits, decide_eq_true (by simp; omega), ifO_true, B_cat, B_fits, decide_eq_true (by simp; omega), ifO_true, B_cat]
      simp
    · have hpos : 1 ≤ l.length := by cases l with
        | nil => exact absurd rfl h0
        | cons c m => simp
      rw [decide_eq_false h0, show notB false = true from rfl, ifO_true, if_neg h0, B_len, min_is s hs]
      have hp1 : 1 ≤ min s.toNat l.length := by omega
      have hp2 : min s.toNat l.length ≤ l.length := by omega
      generalize min s.toNat l.length = p at *
      have hx := hexS_len 9 p
      have htk : (l.take p).length = p := by rw [List.length_take]; omega
      rw [boundB_yes hp2, show boundB 0 (p : Int) = true from boundB_yes (i := 0) (Nat.zero_le _), show andB true true = true from rfl, ifO_true, fmt_is p K (by omega), bindO_some, show cutS (B l) 0 (p : Int) = B (l.take p) from (B_cut l 0 p).trans (by rw [List.drop_zero])]
      rw [B_fits, decide_eq_true (by simp; omega), ifO_true, B_cat, B_fits, decide_eq_true (by simp; omega), ifO_true, B_cat, B_fits, decide_eq_true (by simp; omega), ifO_true, B_cat, B_len, lenL_nat, nums_len]
      rw [fitsL_yes (by simp; omega) (by simp; omega), ifO_true, boundB_yes (Nat.le_refl _), show andB true true = true from rfl, ifO_true, B_cut, List.take_length, nums_cat]
      subst hr
      exact ih m (l.drop p) _ (by rw [List.length_drop]; omega) (by omega) (by rw [List.length_drop]; omega) (by simp only [List.length_append, List.length_drop, htk, List.length_cons, List.length_nil]; omega)
theorem r7enc_loop (s : Int) (hs : 1 ≤ s) (K : Nat) (hK : 12 ≤ K) : ∀ (n m : Nat) (l out : Bs), l.length < n → n ≤ m → l.length ≤ 100000 → out.length + 14 * l.length ≤ 1400000 → iter (ref07_Encode.l0b K) m (B l, s, B out) = some (B (encM n s.toNat l out), 0) := by
  intro n
  induction n with
  | zero => intro m l out h; omega
  | succ n ih =>
    intro m l out hn hm hl ho
    obtain ⟨m, rfl⟩ : ∃ j, m = j + 1 := ⟨m - 1, by omega⟩
    show ref07_Encode.l0b K (iter (ref07_Encode.l0b K) m) _ = _
    generalize hr : iter (ref07_Encode.l0b K) m = r
    unfold ref07_Encode.l0b encM
    simp only
    rw [show (⟨#[]⟩ : ByteArray) = B [] from rfl, show (⟨#[48, 13, 10, 13, 10]⟩ : ByteArray) = B [48, 13, 10, 13, 10] from rfl, show (⟨#[13, 10]⟩ : ByteArray) = B [13, 10] from rfl, B_eq]
    by_cases h0 : l = []
    · rw [decide_eq_true h0, show notB true = false from rfl, ifO_false, if_pos h0, B_fits, decide_eq_true (by show _ + 5 ≤ _; omega), ifO_true, B_cat]
    · have hpos : 1 ≤ l.length := by cases l with
        | nil => exact absurd rfl h0
        | cons c m => simp
      rw [decide_eq_false h0, show notB false = true from rfl, ifO_true, if_neg h0, B_len, min_is s hs]
      have hp1 : 1 ≤ min s.toNat l.length := by omega
      have hp2 : min s.toNat l.length ≤ l.length := by omega
      generalize min s.toNat l.length = p at *
      have hx := hexS_len 9 p
      have htk : (l.take p).length = p := by rw [List.length_take]; omega
      rw [boundB_yes hp2, show boundB 0 (p : Int) = true from boundB_yes (i := 0) (Nat.zero_le _), show andB true true = true from rfl, ifO_true, r7hex p K (by omega) hK, bindO_some, show cutS (B l) 0 (p : Int) = B (l.take p) from (B_cut l 0 p).trans (by rw [List.drop_zero])]
      rw [B_fits, decide_eq_true (by omega), ifO_true, B_cat, B_fits, decide_eq_true (by simp; omega), ifO_true, B_cat, B_fits, decide_eq_true (by simp; omega), ifO_true, B_cat, B_fits, decide_eq_true (by simp; omega), ifO_true, B_cat]
      rw [boundB_yes (Nat.le_refl _), show andB true true = true from rfl, ifO_true, B_cut, List.take_length]
      subst hr
      rw [show out ++ hexS 9 p ++ [13, 10] ++ l.take p ++ [13, 10] = out ++ (hexS 9 p ++ [13, 10] ++ l.take p ++ [13, 10]) by simp]
      exact ih m (l.drop p) _ (by rw [List.length_drop]; omega) (by omega) (by rw [List.length_drop]; omega) (by simp only [List.length_append, List.length_drop, htk, List.length_cons, List.length_nil]; omega)
def encR (l : Bs) (s : Int) : ByteArray × Int := if s < 1 then (B [], 1) else if 100000 < l.length then (B [], 4) else (B (encM (l.length + 1) s.toNat l []), 0)
theorem enc_is (l : Bs) (s : Int) (k : Nat) (hk : 100010 ≤ k) : chunk_Encode.f k (B l, s) = some (encR l s) := by
  unfold chunk_Encode.f chunk_Encode.l0 encR
  rw [ltD, ifO_dec]
  by_cases h1 : s < 1
  · rw [if_pos h1, if_pos h1]; rfl
  rw [if_neg h1, if_neg h1, B_len, show ltI 100000 (l.length : Int) = decide (100000 < l.length) from ltI_nat 100000 l.length, ifO_dec]
  by_cases h2 : 100000 < l.length
  · rw [if_pos h2, if_pos h2]; rfl
  rw [if_neg h2, if_neg h2]
  exact enc_loop s (by omega) k (l.length + 1) k l [] (by omega) (by omega) (by omega) (by simp; omega)
theorem r7enc (l : Bs) (s : Int) (k : Nat) (hk : 100010 ≤ k) : ref07_Encode.f k (B l, s) = some (encR l s) := by
  unfold ref07_Encode.f ref07_Encode.l0 encR
  rw [ltD, ifO_dec]
  by_cases h1 : s < 1
  · rw [if_pos h1, if_pos h1]; rfl
  rw [if_neg h1, if_neg h1, B_len, show ltI 100000 (l.length : Int) = decide (100000 < l.length) from ltI_nat 100000 l.length, ifO_dec]
  by_cases h2 : 100000 < l.length
  · rw [if_pos h2, if_pos h2]; rfl
  rw [if_neg h2, if_neg h2]
  exact r7enc_loop s (by omega) k (by omega) (l.length + 1) k l [] (by omega) (by omega) (by omega) (by simp; omega)
end Go.Proofs.YtmmbedlegmbppaaGreatDoor.R
