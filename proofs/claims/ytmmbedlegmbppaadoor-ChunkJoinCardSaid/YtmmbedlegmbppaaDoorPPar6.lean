/- The document reads heads as the program does. -/
import Derived.Test.YtmmbedlegmbppaaDoorPPar
namespace Go.Proofs.YtmmbedlegmbppaaDoor.R
open Go Go.RowKit
set_option linter.unusedSimpArgs false
set_option linter.unusedVariables false
def cS (one : Bs) (i : Nat) : Int := match cutAt 58 (one.drop i) with
  | some (a, _) => ((a.length + i : Nat) : Int)
  | none => -1
theorem cS_step (one : Bs) (i : Nat) (h : i < one.length) : cS one i = if one[i] = 58 then (i : Int) else cS one (i + 1) := by
  unfold cS
  rw [List.drop_eq_getElem_cons h]
  show (match (if one[i] = 58 then some ([], one.drop (i + 1)) else (cutAt 58 (one.drop (i + 1))).map fun p => (one[i] :: p.1, p.2)) with
    | some (a, _) => ((a.length + i : Nat) : Int)
    | none => -1) = _
  by_cases h58 : one[i] = 58
  · rw [if_pos h58, if_pos h58]; simp
  · rw [if_neg h58, if_neg h58]
    cases cutAt 58 (one.drop (i + 1)) with
    | none => rfl
    | some p =>
      show ((one[i] :: p.1).length + i : Nat) = ((p.1.length + (i + 1) : Nat) : Int)
      rw [List.length_cons]; omega
theorem drop_tail {l m r : Bs} (h : l = m ++ 13 :: 10 :: r) : l.drop (l.length - r.length) = r := by
  subst h
  rw [show m ++ 13 :: 10 :: r = (m ++ [13, 10]) ++ r by simp]
  exact List.drop_left' (by simp only [List.length_append]; omega)
end Go.Proofs.YtmmbedlegmbppaaDoor.R
