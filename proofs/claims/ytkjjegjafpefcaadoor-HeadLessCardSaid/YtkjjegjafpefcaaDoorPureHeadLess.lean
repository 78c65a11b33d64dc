/- HeadLess: without some names the lines are those of no such name; no condition. -/
import Derived.Test.YtkjjegjafpefcaaDoorPureHeadTells
namespace Go.Proofs.YtkjjegjafpefcaaDoor.R
open Go Go.RowKit
set_option linter.unusedSimpArgs false
set_option linter.unusedVariables false
def hasN (ns : List ByteArray) (f : Fld) : Bool := ns.any fun s => f.1.toList == s.toList
theorem left_eq' (ns : List ByteArray) (l : List Fld) : XW.left ns l = l.filter fun f => !hasN ns f := rfl
theorem beq_sym (a b : ByteArray) : (a.toList == b.toList) = (b.toList == a.toList) := by
  rw [Bool.eq_iff_iff, beq_iff_eq, beq_iff_eq]; exact eq_comm
theorem r6without (l : List Fld) (ns : List ByteArray) (hl : l.length ≤ 100000) (hn : ns.length ≤ 100000) (K : Nat) (hK : 100010 ≤ K) : ref06_Without.f K (l, ns) = some (XW.left ns l) := by
  unfold ref06_Without.f ref06_Without.l0
  refine iter_eq (f := ref06_Without.l0b K) (fun v => v.1 = l ∧ v.2.1 = ns ∧ ∃ i : Nat, v.2.2.2 = (i : Int) ∧ i ≤ l.length ∧ v.2.2.1 = XW.left ns (l.take i)) (fun v => (l.length + 1 - v.2.2.2).toNat) (fun _ => some (XW.left ns l)) ?_ K _ ⟨rfl, rfl, 0, rfl, Nat.zero_le _, rfl⟩ (by show ((l.length : Int) + 1 - 0).toNat < K; omega)
  rintro r ⟨s, t, q, i'⟩ ⟨h1, h2, i, h3, hi, h4⟩ hr
  simp only at h1 h2 h3 h4
  subst h1; subst h2; subst h3; subst h4
  unfold ref06_Without.l0b
  simp only [lenL_nat, ltI_nat, ifO_dec]
  by_cases h : i < s.length
  · rw [if_pos h]
    have htk : s.take (i + 1) = s.take i ++ [s[i]] := by rw [List.take_add_one, List.getElem?_eq_getElem h]; rfl
    have hq : (XW.left t (s.take i)).length ≤ i := by
      rw [left_eq']
      exact Nat.le_trans (List.length_filter_le _ _) (by rw [List.length_take]; omega)
    have hlt : ((s.length : Int) + 1 - ((i + 1 : Nat) : Int)).toNat < ((s.length : Int) + 1 - (i : Int)).toNat := by omega
    unfold ref06_Without.l1
    refine iter_eq (f := ref06_Without.l1b K r) (fun v => v.1 = s ∧ v.2.1 = t ∧ v.2.2.1 = XW.left t (s.take i) ∧ v.2.2.2.1 = (i : Int) ∧ ∃ j : Nat, v.2.2.2.2.2 = (j : Int) ∧ j ≤ t.length ∧ v.2.2.2.2.1 = hasN (t.take j) s[i]) (fun v => (t.length + 1 - v.2.2.2.2.2).toNat) (fun _ => some (XW.left t s)) ?_ K _ ⟨rfl, rfl, rfl, rfl, 0, rfl, Nat.zero_le _, rfl⟩ (by show ((t.length : Int) + 1 - 0).toNat < K; omega)
    rintro r' ⟨s', t', q', i'', b, j'⟩ ⟨g1, g2, g3, g4, j, g5, hj, g6⟩ hr'
    simp only at g1 g2 g3 g4 g5 g6
    subst g1; subst g2; subst g3; subst g4; subst g5; subst g6
    unfold ref06_Without.l1b ref06_Without.j2 ref06_Without.j3
    simp only [lenL_nat, ltI_nat, inB_nat, ifO_dec]
    by_cases hjt : j < t'.length
    · have hlt' : ((t'.length : Int) + 1 - ((j + 1 : Nat) : Int)).toNat < ((t'.length : Int) + 1 - (j : Int)).toNat := by omega
      have htj : t'.take (j + 1) = t'.take j ++ [t'[j]] := by rw [List.take_add_one, List.getElem?_eq_getElem hjt]; rfl
      rw [if_pos hjt, if_pos hjt, if_pos h, next64 (by omega), elT_get (t := .str) (xs := t') hjt, elT_get (t := .agg (.pair .str .str)) (xs := s') h]
      cases hb : hasN (t'.take j) s'[i] with
      | true =>
        rw [ifO_true]
        refine hr' _ ⟨rfl, rfl, rfl, rfl, j + 1, rfl, hjt, ?_⟩ hlt'
        show true = hasN (t'.take (j + 1)) s'[i]
        rw [htj]; unfold hasN at hb ⊢; rw [List.any_append, hb]; rfl
      | false =>
        rw [ifO_false]
        refine hr' _ ⟨rfl, rfl, rfl, rfl, j + 1, rfl, hjt, ?_⟩ hlt'
        show eqS t'[j] s'[i].1 = hasN (t'.take (j + 1)) s'[i]
        rw [htj]; unfold hasN at hb ⊢; rw [List.any_append, hb]
        unfold eqS
        rw [beq_sym]; simp
    · rw [if_neg hjt, List.take_of_length_le (by omega), if_pos h, elT_get (t := .agg (.pair .str .str)) (xs := s') h, next64 (by omega)]
      cases hb : hasN t' s'[i] with
      | true =>
        rw [show notB true = false from rfl, ifO_false]
        refine hr _ ⟨rfl, rfl, i + 1, rfl, h, ?_⟩ hlt
        show XW.left t' (s'.take i) = XW.left t' (s'.take (i + 1))
        rw [htk, left_eq', left_eq', List.filter_append, List.filter_cons]
        simp [hb]
      | false =>
        rw [show notB false = true from rfl, ifO_true, show fitsL ((XW.left t' (s'.take i)).length : Int) (([(s'[i].1, s'[i].2)] : List Fld).length : Int) 32 = true from fitsL_yes (n := (XW.left t' (s'.take i)).length) (m := 1) (by omega) (by omega), ifO_true]
        refine hr _ ⟨rfl, rfl, i + 1, rfl, h, ?_⟩ hlt
        show XW.left t' (s'.take i) ++ [(s'[i].1, s'[i].2)] = XW.left t' (s'.take (i + 1))
        rw [htk, left_eq', left_eq', List.filter_append, List.filter_cons]
        simp [hb]
  · rw [if_neg h, List.take_of_length_le (by omega)]
/-- A name that is gone has no values. -/
theorem vals_gone (ns : List ByteArray) (nm : ByteArray) (h : nm ∈ ns) (l : List Fld) : XG.vals nm (XW.left ns l) = [] := by
  unfold XG.vals
  rw [left_eq', List.filter_filter]
  have : (l.filter fun a => (a.1.toList == nm.toList) && !hasN ns a) = [] := by
    rw [List.filter_eq_nil_iff]
    intro a _
    cases e : (a.1.toList == nm.toList) with
    | false => simp
    | true =>
      have : hasN ns a = true := List.any_eq_true.2 ⟨nm, h, e⟩
      rw [this]; simp
  rw [this]; rfl
/-- A name that is not gone has all its values. -/
theorem vals_kept (ns : List ByteArray) (f : Fld) (h : hasN ns f = false) (l : List Fld) : XG.vals f.1 (XW.left ns l) = XG.vals f.1 l := by
  unfold XG.vals
  rw [left_eq', List.filter_filter]
  congr 1
  apply List.filter_congr
  intro a _
  cases e : (a.1.toList == f.1.toList) with
  | false => rfl
  | true =>
    have : hasN ns a = hasN ns f := by unfold hasN; rw [eq_of_beq e]
    rw [this, h]; rfl
theorem vals_some (f : Fld) (l : List Fld) (h : f ∈ l) : 0 < (XG.vals f.1 l).length := by
  unfold XG.vals
  rw [List.length_map]
  exact List.length_pos_of_mem (List.mem_filter.2 ⟨h, beq_self_eq_true _⟩)
theorem less6 (l : List Fld) (ns : List ByteArray) (hl : sumF l ≤ 10000) (hn : ns.length ≤ 20) (K : Nat) (hK : 100010 ≤ K) : law06_HeadLess.l5 K (l, (ns, (true, (XW.left ns l, 0)))) = some true := by
  have hlen := sumF_len l
  have hs := sumF_left ns l
  have hxl : (XW.left ns l).length ≤ l.length := by rw [left_eq']; exact List.length_filter_le _ _
  have last : law06_HeadLess.l7 K (l, (true, (XW.left ns l, 0))) = some true := by
    unfold law06_HeadLess.l7
    refine iter_eq (f := law06_HeadLess.l7b K) (fun v => v.1 = l ∧ v.2.1 = true ∧ v.2.2.1 = XW.left ns l ∧ ∃ i : Nat, v.2.2.2 = (i : Int) ∧ i ≤ (XW.left ns l).length) (fun v => ((XW.left ns l).length + 1 - v.2.2.2).toNat) (fun _ => some true) ?_ K _ ⟨rfl, rfl, rfl, 0, rfl, Nat.zero_le _⟩ (by show (((XW.left ns l).length : Int) + 1 - 0).toNat < K; omega)
    rintro r ⟨s, b, x, i'⟩ ⟨h1, h2, h3, i, h4, hi⟩ hr
    simp only at h1 h2 h3 h4
    subst h1; subst h2; subst h3; subst h4
    unfold law06_HeadLess.l7b law06_HeadLess.j10
    simp only [lenL_nat, ltI_nat, inB_nat, ifO_dec]
    by_cases h : i < (XW.left ns s).length
    · have hm : (XW.left ns s)[i] ∈ s.filter fun f => !hasN ns f := List.getElem_mem h
      obtain ⟨hm1, hm2⟩ := List.mem_filter.1 hm
      have hno : hasN ns (XW.left ns s)[i] = false := by simpa using hm2
      rw [if_pos h, if_pos h, elT_get (t := .agg (.pair .str .str)) (xs := XW.left ns s) h, get_is _ _ (by omega), bindO_some, if_pos h, get_is _ _ (by omega), bindO_some]
      simp only
      unfold getV
      rw [vals_kept ns _ hno, eqS_self, show notB true = false from rfl, ifO_false, decide_eq_true (vals_some _ s hm1), show notB true = false from rfl, ifO_false, ifO_false, next64 (by omega)]
      exact hr _ ⟨rfl, rfl, rfl, i + 1, rfl, h⟩ (by show (((XW.left ns s).length : Int) + 1 - ((i + 1 : Nat) : Int)).toNat < (((XW.left ns s).length : Int) + 1 - (i : Int)).toNat; omega)
    · rw [if_neg h]
  unfold law06_HeadLess.l5
  refine iter_eq (f := law06_HeadLess.l5b K) (fun v => v.1 = l ∧ v.2.1 = ns ∧ v.2.2.1 = true ∧ v.2.2.2.1 = XW.left ns l ∧ ∃ i : Nat, v.2.2.2.2 = (i : Int) ∧ i ≤ ns.length) (fun v => (ns.length + 1 - v.2.2.2.2).toNat) (fun _ => some true) ?_ K _ ⟨rfl, rfl, rfl, rfl, 0, rfl, Nat.zero_le _⟩ (by show ((ns.length : Int) + 1 - 0).toNat < K; omega)
  rintro r ⟨s, t, b, x, i'⟩ ⟨h1, h2, h3, h4, i, h5, hi⟩ hr
  simp only at h1 h2 h3 h4 h5
  subst h1; subst h2; subst h3; subst h4; subst h5
  unfold law06_HeadLess.l5b
  simp only [lenL_nat, ltI_nat, inB_nat, ifO_dec]
  by_cases h : i < t.length
  · rw [if_pos h, if_pos h, elT_get (t := .str) (xs := t) h, get_is _ _ (by omega), bindO_some, vals_gone t t[i] (List.getElem_mem h)]
    show ifO (decide (0 < 0)) _ _ = _
    rw [show decide (0 < 0) = false from rfl, ifO_false, next64 (by omega)]
    exact hr _ ⟨rfl, rfl, rfl, rfl, i + 1, rfl, h⟩ (by show ((t.length : Int) + 1 - ((i + 1 : Nat) : Int)).toNat < ((t.length : Int) + 1 - (i : Int)).toNat; omega)
  · rw [if_neg h]; exact last
theorem HeadLess (l : List Fld) (ns : List ByteArray) (w0 : l.length ≤ 140737488351232 ∧ ∀ x ∈ l, Ty.Wf (.agg (.pair .str .str)) x) (w1 : ns.length ≤ 140737488351232 ∧ ∀ x ∈ ns, Ty.Wf .str x) : ∃ k, law06_HeadLess.f k (l, ns) = some true := by
  refine ⟨l.length + 100020, ?_⟩
  unfold law06_HeadLess.f
  rw [awake6 _ (by omega), bindO_some, size_is l w0.1 (fits_of w0.2) _ (by omega), bindO_some]
  rw [show ltI 10000 ((szs 0 l : Nat) : Int) = decide (10000 < szs 0 l) from ltI_nat 10000 _, ifO_dec]
  by_cases hs : 10000 < szs 0 l
  · rw [if_pos hs]
  rw [if_neg hs]
  have hsum : sumF l ≤ 10000 := by have := szs_small 10000 (by decide) l 0 (by omega); omega
  have hlen := sumF_len l
  rw [lenL_nat, show ltI 20 (ns.length : Int) = decide (20 < ns.length) from ltI_nat 20 _, ifO_dec]
  by_cases h1 : 20 < ns.length
  · rw [if_pos h1]
  have hxl : (XW.left ns l).length ≤ l.length := by rw [left_eq']; exact List.length_filter_le _ _
  rw [if_neg h1, show head_Without.f (l.length + 100020) (l, ns) = some (XW.left ns l) by unfold head_Without.f; rw [if_pos ⟨by show l.length ≤ _; omega, by show ns.length ≤ _; omega⟩], bindO_some, r6without l ns (by omega) (by omega) _ (by omega), bindO_some, r6same _ (by omega) _ (by omega), bindO_some, show notB true = false from rfl, ifO_false]
  exact less6 l ns hsum (by omega) _ (by omega)
end Go.Proofs.YtkjjegjafpefcaaDoor.R
