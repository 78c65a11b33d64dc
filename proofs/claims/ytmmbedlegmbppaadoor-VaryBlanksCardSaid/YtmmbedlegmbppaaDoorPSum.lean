/- How long the parts of a text are, together. -/
import Derived.Test.YtmmbedlegmbppaaDoorPSplit
namespace Go.Proofs.YtmmbedlegmbppaaDoor.R
open Go Go.RowKit
set_option linter.unusedSimpArgs false
set_option linter.unusedVariables false
theorem B_self (x : ByteArray) : B x.data.toList = x := (B_of x).symm
theorem len_data (x : ByteArray) : x.data.toList.length = x.size := by rw [Array.length_toList]; rfl
/-- How long the parts of a text are, together. -/
def sum1 : List ByteArray → Nat
  | [] => 0
  | s :: r => s.size + 1 + sum1 r
theorem sum1_snoc (l : List ByteArray) (s : ByteArray) : sum1 (l ++ [s]) = sum1 l + (s.size + 1) := by
  induction l with
  | nil => simp [sum1]
  | cons x l ih => simp only [List.cons_append, sum1, ih]; omega
theorem sum1_mem {l : List ByteArray} {s : ByteArray} (h : s ∈ l) : s.size + 1 ≤ sum1 l := by
  induction l with
  | nil => cases h
  | cons x l ih =>
    rcases List.mem_cons.1 h with rfl | h
    · simp only [sum1]; omega
    · have := ih h; simp only [sum1]; omega
theorem sum1_len (l : List ByteArray) : l.length ≤ sum1 l := by
  induction l with
  | nil => exact Nat.le_refl _
  | cons x l ih => simp only [sum1, List.length_cons]; omega
theorem takeP_sum (acc : List ByteArray) (q : Bs) : sum1 (takeP acc (B q)) ≤ sum1 acc + (q.length + 1) := by
  rw [takeP_B]
  have := strip_le q
  split
  · omega
  · rw [sum1_snoc, B_size]; omega
theorem C_sum (l : Bs) : ∀ (n fr i : Nat) (acc : List ByteArray), l.length + 1 - i ≤ n → fr ≤ i → fr ≤ l.length → sum1 (C l fr i acc) ≤ sum1 acc + (l.length - fr + 1) := by
  intro n
  induction n with
  | zero =>
    intro fr i acc h1 h2 h3
    rw [C_end _ _ _ _ (by omega), B_extract]
    refine Nat.le_trans (takeP_sum _ _) ?_
    rw [List.length_drop, List.length_take]; omega
  | succ n ih =>
    intro fr i acc h1 h2 h3
    by_cases h : i < l.length
    · rw [C_step _ _ _ _ h]
      by_cases h34 : (l[i]).toNat = 34
      · rw [if_pos h34]
        have := endAt_bd l (i + 1) h
        exact ih _ _ _ (by omega) (by omega) h3
      · rw [if_neg h34]
        by_cases h44 : (l[i]).toNat = 44
        · rw [if_pos h44, B_extract]
          have h5 := ih (i + 1) (i + 1) (takeP acc (B ((l.take i).drop fr))) (by omega) (Nat.le_refl _) (by omega)
          have h6 := takeP_sum acc ((l.take i).drop fr)
          rw [List.length_drop, List.length_take] at h6
          omega
        · rw [if_neg h44]
          exact ih _ _ _ (by omega) (by omega) h3
    · rw [C_end _ _ _ _ (by omega), B_extract]
      refine Nat.le_trans (takeP_sum _ _) ?_
      rw [List.length_drop, List.length_take]; omega
theorem C_all (l : Bs) : sum1 (C l 0 0 []) ≤ l.length + 1 := by
  have := C_sum l (l.length + 1) 0 0 [] (by omega) (Nat.le_refl _) (Nat.zero_le _)
  simpa [sum1] using this
end Go.Proofs.YtmmbedlegmbppaaDoor.R
