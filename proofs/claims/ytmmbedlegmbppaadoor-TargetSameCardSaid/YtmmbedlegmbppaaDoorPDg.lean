/- Digits: the program's and the document's are one. -/
import Derived.Test.YtmmbedlegmbppaaDoorPCut
import Derived.Test.YtmmbedlegmbppaaDoorF0
namespace Go.Proofs.YtmmbedlegmbppaaDoor.R
open Go Go.RowKit
set_option linter.unusedSimpArgs false
set_option linter.unusedVariables false
def dgs : Int → Bs → Int
  | n, [] => n
  | n, c :: r => dgs (min (10 * n + ((c.toNat : Int) - 48)) 2147483648) r
def dg (c : UInt8) : Bool := decide (48 ≤ c.toNat) && decide (c.toNat ≤ 57)
def digV (l : Bs) : Int × Bool := if l = [] then (0, false) else if l.all dg then (dgs 0 l, true) else (0, false)
theorem dgs_bd : ∀ (l : Bs) (n : Int), l.all dg = true → 0 ≤ n → n ≤ 2147483648 → 0 ≤ dgs n l ∧ dgs n l ≤ 2147483648
  | [], n, _, h, h' => ⟨h, h'⟩
  | c :: r, n, ha, h, h' => by
    simp only [List.all_cons, Bool.and_eq_true] at ha
    have hc : 48 ≤ c.toNat ∧ c.toNat ≤ 57 := by simpa [dg] using ha.1
    exact dgs_bd r _ ha.2 (by omega) (by omega)
theorem digV_bd (l : Bs) : 0 ≤ (digV l).1 ∧ (digV l).1 ≤ 2147483648 := by
  unfold digV
  split
  · simp
  · split
    · rename_i h; exact dgs_bd l 0 h (by omega) (by omega)
    · simp
theorem dgs_fold : ∀ (l : Bs) (n : Int), l.foldl X.dstep n = dgs n l
  | [], n => rfl
  | c :: r, n => by
    show (r.foldl X.dstep (X.dstep n c)) = dgs _ r
    rw [dgs_fold r]
    congr 1
    unfold X.dstep
    split <;> omega
theorem dg_is (c : UInt8) : X.isDigit c = dg c := rfl
theorem digits_is (l : Bs) (hl : l.length ≤ 9223372036854775807) (k : Nat) : ascii_Digits.f k (B l) = some (digV l) := by
  unfold ascii_Digits.f X.ascii_Digits.f
  rw [B_size, if_pos hl, B_toList]
  unfold digV X.allB
  rw [B_data]
  by_cases h0 : l = []
  · rw [if_pos h0, if_pos h0]
  · rw [if_neg h0, if_neg h0]
    have e : l.all X.isDigit = l.all dg := by congr 1
    rw [e]
    by_cases h1 : l.all dg = true
    · rw [if_pos h1, if_pos h1]
      unfold X.digs
      rw [dgs_fold]
    · rw [if_neg h1, if_neg h1]
end Go.Proofs.YtmmbedlegmbppaaDoor.R
