/- Plain facts about bytes and prefixes. -/
import Derived.Test.YtkjjegjafpefcaaDoorPHead
namespace Go.Proofs.YtkjjegjafpefcaaDoor.R
open Go Go.RowKit
set_option linter.unusedSimpArgs false
set_option linter.unusedVariables false
abbrev nums (l : Bs) : List Int := l.map fun c => (c.toNat : Int)
theorem drop_one {l : Bs} {i : Nat} (h : i < l.length) : l.drop i = l[i] :: l.drop (i + 1) := List.drop_eq_getElem_cons h
theorem drop_nil {l : Bs} {i : Nat} : l.drop i = [] ↔ l.length ≤ i := List.drop_eq_nil_iff
theorem B_nil : (⟨#[]⟩ : ByteArray) = B [] := rfl
theorem prefix_is (l p : Bs) (hl : l.length ≤ 1000000) (k : Nat) : strings_CutPrefix.f k (B l, B p) = some (if p = l.take p.length then (B (l.drop p.length), true) else (B l, false)) := by
  unfold strings_CutPrefix.f internal_stringslite_CutPrefix.f internal_stringslite_HasPrefix.f
  simp only [B_len, leI_nat, ifO_dec]
  by_cases h : p.length ≤ l.length
  · rw [if_pos h, boundB_yes h, show boundB 0 (p.length : Int) = true from boundB_yes (i := 0) (by omega), show andB true true = true from rfl, ifO_true, show cutS (B l) 0 (p.length : Int) = B ((l.take p.length).drop 0) from B_cut l 0 p.length, B_eq, List.drop_zero, bindO_some]
    by_cases he : p = l.take p.length
    · rw [if_pos he, show decide (l.take p.length = p) = true from decide_eq_true he.symm, show notB true = false from rfl, ifO_false, boundB_yes (Nat.le_refl _), show andB true true = true from rfl, ifO_true, bindO_some, B_cut, List.take_of_length_le (Nat.le_refl _)]
    · rw [if_neg he, show decide (l.take p.length = p) = false from decide_eq_false (fun e => he e.symm), show notB false = true from rfl, ifO_true, bindO_some]
  · rw [if_neg h, bindO_some, show notB false = true from rfl, ifO_true, bindO_some, if_neg (fun e => h (by have := congrArg List.length e; rw [List.length_take] at this; omega))]
theorem cutAt_step (one : Bs) (i : Nat) (h : i < one.length) (c : UInt8) : cutAt c (one.drop i) = if one[i] = c then some ([], one.drop (i + 1)) else (cutAt c (one.drop (i + 1))).map fun p => (one[i] :: p.1, p.2) := by
  rw [drop_one h]; rfl
theorem take_snoc {α : Type} (l : List α) (i : Nat) (h : i < l.length) : l.take (i + 1) = l.take i ++ [l[i]] := by rw [List.take_add_one, List.getElem?_eq_getElem h]; rfl
end Go.Proofs.YtkjjegjafpefcaaDoor.R
