/- Sizes of chunks as the document reads them. -/
import Derived.Test.YtmmbedlegmbppaaDoorPChk
namespace Go.Proofs.YtmmbedlegmbppaaDoor.R
open Go Go.RowKit
set_option linter.unusedSimpArgs false
set_option linter.unusedVariables false
def hexI (c : UInt8) : Int := match hexB c with
  | some d => (d : Int)
  | none => -1
theorem hexB_lt {c : UInt8} {d : Nat} (h : hexB c = some d) : d < 16 := by
  unfold hexB at h
  split at h
  · obtain rfl := Option.some.inj h; omega
  · split at h
    · obtain rfl := Option.some.inj h; omega
    · split at h
      · obtain rfl := Option.some.inj h; omega
      · cases h
theorem tw_eq {p : UInt8 → Bool} {l : Bs} {i : Nat} (hi : i ≤ l.length) (h : (l.take i).all p = true) (hs : ∀ hi : i < l.length, p l[i] = false) : l.takeWhile p = l.take i ∧ l.dropWhile p = l.drop i := by
  have e : l = l.take i ++ l.drop i := (List.take_append_drop i l).symm
  have hall : ∀ x ∈ l.take i, p x = true := List.all_eq_true.1 h
  have h2 : (l.drop i).takeWhile p = [] ∧ (l.drop i).dropWhile p = l.drop i := by
    by_cases hl : i < l.length
    · rw [List.drop_eq_getElem_cons hl, List.takeWhile_cons, List.dropWhile_cons, hs hl]
      exact ⟨rfl, rfl⟩
    · rw [List.drop_eq_nil_of_le (by omega)]; exact ⟨rfl, rfl⟩
  constructor
  · conv => lhs; rw [e]
    rw [List.takeWhile_append_of_pos hall, h2.1, List.append_nil]
  · conv => lhs; rw [e]
    rw [List.dropWhile_append_of_pos hall, h2.2]
/-- After the digits and the blanks: nothing, or a ';' and text. -/
def tailM (v : Int) (z : Bool) (r : Bs) : Int × Bool := match r with
  | [] => (v, z)
  | c :: m => if c = 59 then (v, txtB (strip m)) else (v, false)
def sizeN (l : Bs) : Nat := if 1 ≤ (l.takeWhile hexC).length ∧ (l.takeWhile hexC).length ≤ 8 then (hexL 0 (l.takeWhile hexC)).getD 0 else 0
theorem hexL_lt8 (l : Bs) (n : Nat) (h : hexL 0 l = some n) (hl : l.length ≤ 8) : n < 4294967296 := hexL_lt l 0 n 0 h (by decide) (by omega)
end Go.Proofs.YtmmbedlegmbppaaDoor.R
