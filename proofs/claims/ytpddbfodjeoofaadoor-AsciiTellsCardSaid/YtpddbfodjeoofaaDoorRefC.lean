/- The document's Lower and Text are the program's. -/
import Derived.Test.YtpddbfodjeoofaaDoorRefB
namespace Go.Proofs.YtpddbfodjeoofaaDoor.Pure
open Go.RowKit Go.Proofs.YtpddbfodjeoofaaDoor.PAscii Go.Proofs.YtpddbfodjeoofaaDoorW.PrintWords Go.Proofs.YtpddbfodjeoofaaDoorW.PrintLast
set_option linter.unusedSimpArgs false
set_option linter.unusedVariables false
def lowN (c : UInt8) : Int := ((X.lowB c).toNat : Int)
theorem lowN_yes {c : UInt8} (h : 65 ≤ c.toNat) (h' : c.toNat ≤ 90) : ((c.toNat : Int) + 32) % 256 = lowN c := by
  unfold lowN; rw [X.lowB_yes h h']; omega
theorem lowN_no {c : UInt8} (h : ¬ (65 ≤ c.toNat ∧ c.toNat ≤ 90)) : (c.toNat : Int) = lowN c := by unfold lowN; rw [X.lowB_no h]
theorem rlower_l0 (l : Bs) (hl : l.length ≤ 500) : ∀ (e i k : Nat) (xs : List Int), i + e = l.length → e + 1 ≤ k → xs.length = i →
    sculleryref01_Lower.l0 k (B l) xs i = some (strOfNums (xs ++ (l.drop i).map lowN)) := by
  intro e
  induction e with
  | zero =>
    intro i k xs hi hk hx
    obtain ⟨k, rfl⟩ : ∃ j, k = j + 1 := ⟨k - 1, by omega⟩
    simp only [sculleryref01_Lower.l0]
    rw [B_size, if_neg (by omega), List.drop_eq_nil_of_le (by omega)]
    simp
  | succ e ih =>
    intro i k xs hi hk hx
    obtain ⟨k, rfl⟩ : ∃ j, k = j + 1 := ⟨k - 1, by omega⟩
    have hlt : i < l.length := by omega
    have step : ∀ y : Int, y = lowN l[i] → sculleryref01_Lower.l0 k (B l) (xs ++ [y]) ((i : Int) + 1) = some (strOfNums (xs ++ (l.drop i).map lowN)) := by
      intro y hy
      have := ih (i + 1) k (xs ++ [y]) (by omega) (by omega) (by simp [hx])
      rw [show ((i + 1 : Nat) : Int) = (i : Int) + 1 from rfl] at this
      rw [this, List.drop_eq_getElem_cons hlt, List.map_cons, hy, List.append_assoc]; rfl
    simp only [sculleryref01_Lower.l0]
    rw [B_size, if_pos (by omega), if_pos (by omega), B_get l i hlt, u64 (x := (i : Int) + 1) (by omega) (by omega)]
    by_cases h1 : (l[i].toNat : Int) ≥ 65
    · rw [if_pos h1]
      by_cases h2 : (l[i].toNat : Int) ≤ 90
      · rw [if_pos h2, if_pos (by omega)]; exact step _ (lowN_yes (by omega) (by omega))
      · rw [if_neg h2, if_pos (by omega)]; exact step _ (lowN_no (by omega))
    · rw [if_neg h1, if_pos (by omega)]; exact step _ (lowN_no (by omega))
theorem lower_same (l : Bs) (hl : l.length ≤ 500) (k : Nat) (hk : 502 ≤ k) : sculleryref01_Lower.f k (B l) = X.ascii_Lower.f (B l) := by
  unfold sculleryref01_Lower.f
  have := rlower_l0 l hl l.length 0 k [] (by omega) (by omega) rfl
  rw [show ((0 : Nat) : Int) = 0 from rfl, List.drop_zero, List.nil_append] at this
  rw [this, low_f l hl, B_nums, List.map_map]
  congr 2
  apply List.map_congr_left
  intro c _
  unfold lowN
  simp
theorem isText_iff (c : UInt8) : X.isText c = true ↔ (c.toNat = 9 ∨ (32 ≤ c.toNat ∧ ¬ c.toNat = 127)) := by unfold X.isText; simp
theorem rtext_l0 (l : Bs) (hl : l.length ≤ 500) : ∀ (e i k : Nat), i + e = l.length → e + 1020 ≤ k → sculleryref01_Text.l0 k (B l) i = some (if (l.drop i).all X.isText = true then ((B (strip l)).toList == (B l).toList) else false) := by
  intro e
  induction e with
  | zero =>
    intro i k hi hk
    obtain ⟨k, rfl⟩ : ∃ j, k = j + 1 := ⟨k - 1, by omega⟩
    simp only [sculleryref01_Text.l0]
    rw [B_size, if_neg (by omega), List.drop_eq_nil_of_le (by omega), rtrim l.length l k (Nat.le_refl _) (by omega) (by omega)]
    rfl
  | succ e ih =>
    intro i k hi hk
    obtain ⟨k, rfl⟩ : ∃ j, k = j + 1 := ⟨k - 1, by omega⟩
    have hlt : i < l.length := by omega
    have hn := ih (i + 1) k (by omega) (by omega)
    rw [show ((i + 1 : Nat) : Int) = (i : Int) + 1 from rfl] at hn
    simp only [sculleryref01_Text.l0]
    rw [B_size, if_pos (by omega), if_pos (by omega), B_get l i hlt, u64 (x := (i : Int) + 1) (by omega) (by omega), List.drop_eq_getElem_cons hlt, List.all_cons, hn]
    have hb := l[i].toNat_lt
    by_cases ht : X.isText l[i] = true
    · have ht' := (isText_iff _).1 ht
      rw [ht, Bool.true_and]
      by_cases h1 : (l[i].toNat : Int) < 32
      · rw [if_pos h1, if_pos (by omega), if_neg (by omega)]
      · rw [if_neg h1, if_neg (by omega)]
    · have ht' : ¬ (l[i].toNat = 9 ∨ (32 ≤ l[i].toNat ∧ ¬ l[i].toNat = 127)) := fun q => ht ((isText_iff l[i]).2 q)
      have hf : X.isText l[i] = false := by simpa using ht
      have e0 : (if false = true then ((B (strip l)).toList == (B l).toList) else false) = false := rfl
      rw [hf, Bool.false_and, e0]
      by_cases h1 : (l[i].toNat : Int) < 32
      · rw [if_pos h1, if_neg (by omega)]
      · rw [if_neg h1, if_pos (by omega)]
theorem text_same (l : Bs) (hl : l.length ≤ 500) (k : Nat) (hk : 1530 ≤ k) : sculleryref01_Text.f k (B l) = X.ascii_Text.f (B l) := by
  unfold sculleryref01_Text.f X.ascii_Text.f
  have := rtext_l0 l hl l.length 0 k (by omega) (by omega)
  rw [show ((0 : Nat) : Int) = 0 from rfl, List.drop_zero] at this
  rw [this, if_pos (show (B l).size ≤ 9223372036854775807 by rw [B_size]; omega), allB_B, trim_eq]
end Go.Proofs.YtpddbfodjeoofaaDoor.Pure
