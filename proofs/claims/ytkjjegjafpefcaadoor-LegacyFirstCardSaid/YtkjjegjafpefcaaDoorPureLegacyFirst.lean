/- LegacyFirst, told in plain words. -/
import Derived.Test.YtkjjegjafpefcaaDoorPLegLaw
import Derived.Test.YtkjjegjafpefcaaDoorRW
namespace Go.Proofs.YtkjjegjafpefcaaDoor.R
open Go Go.RowKit
set_option linter.unusedSimpArgs false
set_option linter.unusedVariables false
def keepM (l more : List Dir) : List Dir := more.filter fun m => hasL (nmD m) l
theorem hasL_more (l q : List Dir) (h : ∀ m ∈ q, hasL (nmD m) l = true) (nm : Bs) : hasL nm q = true → hasL nm l = true := by
  intro hq
  unfold hasL at hq
  rw [List.any_eq_true] at hq
  obtain ⟨m, hm, he⟩ := hq
  rw [decide_eq_true_eq] at he
  have := h m hm
  rw [he] at this
  exact this
theorem ofM_more (l q : List Dir) (h : ∀ m ∈ q, hasL (nmD m) l = true) : ofM (l ++ q) = ofM l := by
  have h1 : ∀ nm, hasL nm (l ++ q) = hasL nm l := by
    intro nm
    rw [hasL_app]
    cases hq : hasL nm q with
    | false => rw [Bool.or_false]
    | true => rw [hasL_more l q h nm hq]; rfl
  have h2 : ∀ nm, numL nm (l ++ q) = numL nm l := by
    intro nm
    rw [numL_app]
    cases hl : hasL nm l with
    | true => rw [if_pos rfl]
    | false =>
      rw [if_neg (by decide), (numL_nn nm l).2 hl, (numL_nn nm q).2 ?_]
      cases hq : hasL nm q with
      | false => rfl
      | true => rw [hasL_more l q h nm hq] at hl; cases hl
  unfold ofM
  simp only [h1, h2]
theorem eqS_nm (x y : Dir) : eqS x.1 y.1 = decide (nmD x = nmD y) := by
  have := B_eq (nmD x) (nmD y)
  rw [← B_of x.1, ← B_of y.1] at this
  exact this
theorem first4 (l more all : List Dir) (i : Nat) (hi : i < more.length) (hl : l.length ≤ 1000) (hm : more.length ≤ 1000) (ha : all.length ≤ 5000) (K : Nat) (hK : 1000000 ≤ K) (r : _) :
    law10_LegacyFirst.l4 K r (l, (more, (true, (all, ((i : Int), 0))))) = r (l, (more, (true, (if hasL (nmD more[i]) l = true then all ++ [more[i]] else all, ((i + 1 : Nat) : Int))))) := by
  unfold law10_LegacyFirst.l4
  refine iter_eq (f := law10_LegacyFirst.l4b K r) (fun v => v.1 = l ∧ v.2.1 = more ∧ v.2.2.1 = true ∧ v.2.2.2.1 = all ∧ v.2.2.2.2.1 = (i : Int) ∧ ∃ j : Nat, v.2.2.2.2.2 = (j : Int) ∧ j ≤ l.length ∧ hasL (nmD more[i]) (l.take j) = false) (fun v => (l.length + 1 - v.2.2.2.2.2).toNat) (fun _ => r (l, (more, (true, (if hasL (nmD more[i]) l = true then all ++ [more[i]] else all, ((i + 1 : Nat) : Int)))))) ?_ K _ ⟨rfl, rfl, rfl, rfl, rfl, 0, rfl, Nat.zero_le _, rfl⟩ (by show ((l.length : Int) + 1 - 0).toNat < K; omega)
  rintro r' ⟨s, t, b, a, i', j'⟩ ⟨h1, h2, h3, h4, h5, j, h6, hj, h7⟩ hr
  simp only at h1 h2 h3 h4 h5 h6
  subst h1; subst h2; subst h3; subst h4; subst h5; subst h6
  unfold law10_LegacyFirst.l4b law10_LegacyFirst.j5
  simp only [lenL_nat, ltI_nat, inB_nat, ifO_dec]
  by_cases h : j < s.length
  · rw [if_pos h, if_pos h, if_pos hi, elT_get (t := .agg (.pair .str (.pair .str .bool))) (xs := s) h, elT_get (t := .agg (.pair .str (.pair .str .bool))) (xs := t) hi, eqS_nm, ifO_dec]
    by_cases he : nmD s[j] = nmD t[i]
    · have hh : hasL (nmD t[i]) s = true := by
        unfold hasL
        rw [List.any_eq_true]
        exact ⟨s[j], List.getElem_mem h, decide_eq_true he⟩
      rw [if_pos he, if_pos hi, show ∀ x : Dir, (([(x.1, (x.2.1, x.2.2))] : List Dir).length : Int) = ((1 : Nat) : Int) from fun _ => rfl, fitsL_yes (by omega) (by omega), ifO_true, if_pos hh, next64 (by omega)]
      rfl
    · rw [if_neg he, next64 (by omega)]
      refine hr _ ⟨rfl, rfl, rfl, rfl, rfl, j + 1, rfl, h, ?_⟩ (by show ((s.length : Int) + 1 - ((j + 1 : Nat) : Int)).toNat < ((s.length : Int) + 1 - (j : Int)).toNat; omega)
      rw [take_snoc _ _ h, hasL_snoc, h7, decide_eq_false he]; rfl
  · rw [List.take_of_length_le (by omega)] at h7
    rw [if_neg h, h7, if_neg (by decide), next64 (by omega)]
theorem LegacyFirst (l more : List Dir) (w0 : l.length ≤ 140737488351232 ∧ ∀ x ∈ l, Ty.Wf (.agg (.pair .str (.pair .str .bool))) x) (w1 : more.length ≤ 140737488351232 ∧ ∀ x ∈ more, Ty.Wf (.agg (.pair .str (.pair .str .bool))) x) : ∃ k, law10_LegacyFirst.f k (l, more) = some true := by
  refine ⟨1000010, ?_⟩
  unfold law10_LegacyFirst.f
  rw [awake10, bindO_some, own_is l w0.1 (wf_dirs w0) _ (by omega), bindO_some, own_is more w1.1 (wf_dirs w1) _ (by omega), bindO_some]
  simp only
  rw [show ltI 1000 ((ownM 0 l).2 : Int) = decide (1000 < (ownM 0 l).2) from ltI_nat 1000 _, ifO_dec, show ltI 1000 ((ownM 0 more).2 : Int) = decide (1000 < (ownM 0 more).2) from ltI_nat 1000 _, ifO_dec]
  by_cases h1 : 1000 < (ownM 0 l).2
  · rw [if_pos h1]
  rw [if_neg h1]
  by_cases h2 : 1000 < (ownM 0 more).2
  · rw [if_pos h2]
  rw [if_neg h2]
  obtain ⟨_, e1⟩ := own_small l (by omega)
  obtain ⟨_, e2⟩ := own_small more (by omega)
  have l1 := sumD_len l
  have l2 := sumD_len more
  rw [show lenL ([] : List Dir) = ((0 : Nat) : Int) from rfl, lenL_nat, fitsL_yes (by omega) (by omega), ifO_true, show catL ([] : List Dir) l = l from rfl]
  unfold law10_LegacyFirst.l3
  refine iter_eq (f := law10_LegacyFirst.l3b 1000010) (fun v => v.1 = l ∧ v.2.1 = more ∧ v.2.2.1 = true ∧ ∃ i : Nat, v.2.2.2.2 = (i : Int) ∧ i ≤ more.length ∧ v.2.2.2.1 = l ++ keepM l (more.take i)) (fun v => (more.length + 1 - v.2.2.2.2).toNat) (fun _ => some true) ?_ _ _ ⟨rfl, rfl, rfl, 0, rfl, Nat.zero_le _, by simp [keepM]⟩ (by show ((more.length : Int) + 1 - 0).toNat < 1000010; omega)
  rintro r ⟨s, t, b, a, i'⟩ ⟨g1, g2, g3, i, g4, hi, g5⟩ hr
  simp only at g1 g2 g3 g4 g5
  subst g1; subst g2; subst g3; subst g4; subst g5
  have hk : (keepM s (t.take i)).length ≤ i := by
    unfold keepM
    refine Nat.le_trans (List.length_filter_le _ _) ?_
    rw [List.length_take]; omega
  unfold law10_LegacyFirst.l3b
  simp only [lenL_nat, ltI_nat, ifO_dec]
  by_cases h : i < t.length
  · rw [if_pos h, first4 s t _ i h (by omega) (by omega) (by rw [List.length_append]; omega) _ (by omega)]
    refine hr _ ⟨rfl, rfl, rfl, i + 1, rfl, h, ?_⟩ (by show ((t.length : Int) + 1 - ((i + 1 : Nat) : Int)).toNat < ((t.length : Int) + 1 - (i : Int)).toNat; omega)
    show (if hasL (nmD t[i]) s = true then _ else _) = _
    rw [take_snoc _ _ h]
    unfold keepM
    rw [List.filter_append]
    by_cases hc : hasL (nmD t[i]) s = true
    · rw [if_pos hc]; simp [hc]
    · rw [if_neg hc]; simp [hc]
  · have hq : ∀ m ∈ keepM s (t.take i), hasL (nmD m) s = true := fun m hm => (List.mem_filter.1 hm).2
    have hle : (s ++ keepM s (t.take i)).length ≤ 900000 := by rw [List.length_append]; omega
    rw [if_neg h, ifO_true, of_is _ hle (fun d hd => ?_) _ (by omega), bindO_some, of_small s (by omega) _ (by omega), bindO_some, ofM_more s _ hq, eqD_refl _ rfl]
    rcases List.mem_append.1 hd with hd | hd
    · have := sumD_mem hd; omega
    · have := sumD_mem (List.mem_of_mem_take (List.mem_filter.1 hd).1); omega
end Go.Proofs.YtkjjegjafpefcaaDoor.R
