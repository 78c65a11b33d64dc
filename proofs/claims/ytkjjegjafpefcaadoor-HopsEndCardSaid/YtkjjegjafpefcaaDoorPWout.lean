/- Fields without some names: the document's are the program's. -/
import Derived.Test.YtkjjegjafpefcaaDoorPHead3
namespace Go.Proofs.YtkjjegjafpefcaaDoor.R
open Go Go.RowKit
set_option linter.unusedSimpArgs false
set_option linter.unusedVariables false
def hasN (ns : List ByteArray) (f : Fld) : Bool := ns.any fun s => f.1.toList == s.toList
theorem left_eq' (ns : List ByteArray) (l : List Fld) : XW.left ns l = l.filter fun f => !hasN ns f := rfl
theorem beq_sym (a b : ByteArray) : (a.toList == b.toList) = (b.toList == a.toList) := by
  rw [Bool.eq_iff_iff, beq_iff_eq, beq_iff_eq]; exact eq_comm
theorem r6without (l : List Fld) (ns : List ByteArray) (hl : l.length ≤ 100000) (hn : ns.length ≤ 100000) (K : Nat) (hK : 100010 ≤ K) : ref06_Without.f K (l, ns) = some (XW.left ns l) := by
  unfold ref06_Without.f ref06_Without.l0
  refine iter_eq (f := ref06_Without.l0b K) (fun v => v.1 = l ∧ v.2.1 = ns ∧ ∃ i : Nat, v.2.2.2 = (i : Int) ∧ i ≤ l.length ∧ v.2.2.1 = XW.left ns (l.take i)) (fun v => (l.length + 1 - v.2.2.2).toNat) (fun _ => some (XW.left ns l)) ?_ K _ ⟨rfl, rfl, 0, rfl, Nat.zero_le _, rfl⟩ (by show ((l.length : Int) + 1 - 0).toNat < K; omega)
  rintro r ⟨s, t, q, i'⟩ ⟨h1, h2, i, h3, hi, h4⟩ hr
  simp only at h1 h2 h3 h4
  subst h1; subst h2; subst h3; subst h4
  unfold ref06_Without.l0b
  simp only [lenL_nat, ltI_nat, ifO_dec]
  by_cases h : i < s.length
  · rw [if_pos h]
    have htk : s.take (i + 1) = s.take i ++ [s[i]] := by rw [List.take_add_one, List.getElem?_eq_getElem h]; rfl
    have hq : (XW.left t (s.take i)).length ≤ i := by
      rw [left_eq']
      exact Nat.le_trans (List.length_filter_le _ _) (by rw [List.length_take]; omega)
    have hlt : ((s.length : Int) + 1 - ((i + 1 : Nat) : Int)).toNat < ((s.length : Int) + 1 - (i : Int)).toNat := by omega
    unfold ref06_Without.l1
    refine iter_eq (f := ref06_Without.l1b K r) (fun v => v.1 = s ∧ v.2.1 = t ∧ v.2.2.1 = XW.left t (s.take i) ∧ v.2.2.2.1 = (i : Int) ∧ ∃ j : Nat, v.2.2.2.2.2 = (j : Int) ∧ j ≤ t.length ∧ v.2.2.2.2.1 = hasN (t.take j) s[i]) (fun v => (t.length + 1 - v.2.2.2.2.2).toNat) (fun _ => some (XW.left t s)) ?_ K _ ⟨rfl, rfl, rfl, rfl, 0, rfl, Nat.zero_le _, rfl⟩ (by show ((t.length : Int) + 1 - 0).toNat < K; omega)
    rintro r' ⟨s', t', q', i'', b, j'⟩ ⟨g1, g2, g3, g4, j, g5, hj, g6⟩ hr'
    simp only at g1 g2 g3 g4 g5 g6
    subst g1; subst g2; subst g3; subst g4; subst g5; subst g6
    unfold ref06_Without.l1b ref06_Without.j2 ref06_Without.j3
    simp only [lenL_nat, ltI_nat, inB_nat, ifO_dec]
    by_cases hjt : j < t'.length
    · have hlt' : ((t'.length : Int) + 1 - ((j + 1 : Nat) : Int)).toNat < ((t'.length : Int) + 1 - (j : Int)).toNat := by omega
      have htj : t'.take (j + 1) = t'.take j ++ [t'[j]] := by rw [List.take_add_one, List.getElem?_eq_getElem hjt]; rfl
      rw [if_pos hjt, if_pos hjt, if_pos h, next64 (by omega), elT_get (t := .str) (xs := t') hjt, elT_get (t := .agg (.pair .str .str)) (xs := s') h]
      cases hb : hasN (t'.take j) s'[i] with
      | true =>
        rw [ifO_true]
        refine hr' _ ⟨rfl, rfl, rfl, rfl, j + 1, rfl, hjt, ?_⟩ hlt'
        show true = hasN (t'.take (j + 1)) s'[i]
        rw [htj]; unfold hasN at hb ⊢; rw [List.any_append, hb]; rfl
      | false =>
        rw [ifO_false]
        refine hr' _ ⟨rfl, rfl, rfl, rfl, j + 1, rfl, hjt, ?_⟩ hlt'
        show eqS t'[j] s'[i].1 = hasN (t'.take (j + 1)) s'[i]
        rw [htj]; unfold hasN at hb ⊢; rw [List.any_append, hb]
        unfold eqS
        rw [beq_sym]; simp
    · rw [if_neg hjt, List.take_of_length_le (by omega), if_pos h, elT_get (t := .agg (.pair .str .str)) (xs := s') h, next64 (by omega)]
      cases hb : hasN t' s'[i] with
      | true =>
        rw [show notB true = false from rfl, ifO_false]
        refine hr _ ⟨rfl, rfl, i + 1, rfl, h, ?_⟩ hlt
        show XW.left t' (s'.take i) = XW.left t' (s'.take (i + 1))
        rw [htk, left_eq', left_eq', List.filter_append, List.filter_cons]
        simp [hb]
      | false =>
        rw [show notB false = true from rfl, ifO_true, show fitsL ((XW.left t' (s'.take i)).length : Int) (([(s'[i].1, s'[i].2)] : List Fld).length : Int) 32 = true from fitsL_yes (n := (XW.left t' (s'.take i)).length) (m := 1) (by omega) (by omega), ifO_true]
        refine hr _ ⟨rfl, rfl, i + 1, rfl, h, ?_⟩ hlt
        show XW.left t' (s'.take i) ++ [(s'[i].1, s'[i].2)] = XW.left t' (s'.take (i + 1))
        rw [htk, left_eq', left_eq', List.filter_append, List.filter_cons]
        simp [hb]
  · rw [if_neg h, List.take_of_length_le (by omega)]
end Go.Proofs.YtkjjegjafpefcaaDoor.R
