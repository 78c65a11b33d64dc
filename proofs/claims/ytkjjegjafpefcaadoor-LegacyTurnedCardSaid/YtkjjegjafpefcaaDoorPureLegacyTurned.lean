/- LegacyTurned, told in plain words. -/
import Derived.Test.YtkjjegjafpefcaaDoorPLegLaw
import Derived.Test.YtkjjegjafpefcaaDoorRW
namespace Go.Proofs.YtkjjegjafpefcaaDoor.R
open Go Go.RowKit
set_option linter.unusedSimpArgs false
set_option linter.unusedVariables false
theorem hasL_rev (nm : Bs) (l : List Dir) : hasL nm l.reverse = hasL nm l := by unfold hasL; rw [List.any_reverse]
theorem numL_cons (nm : Bs) (d : Dir) (r : List Dir) : numL nm (d :: r) = if nmD d = nm then dval nm d else numL nm r := rfl
theorem numL_rev (nm : Bs) : ∀ l : List Dir, l.Pairwise (fun a b => nmD a ≠ nmD b) → numL nm l.reverse = numL nm l
  | [], _ => rfl
  | d :: r, h => by
    obtain ⟨h1, h2⟩ := List.pairwise_cons.1 h
    have ih := numL_rev nm r h2
    rw [List.reverse_cons, numL_snoc, hasL_rev, numL_cons]
    by_cases hc : nmD d = nm
    · have : hasL nm r = false := by
        cases hh : hasL nm r with
        | false => rfl
        | true =>
          unfold hasL at hh
          rw [List.any_eq_true] at hh
          obtain ⟨m, hm, he⟩ := hh
          rw [decide_eq_true_eq] at he
          exact absurd (hc.trans he.symm) (h1 m hm)
      rw [this, if_neg (by decide), if_pos hc, if_pos hc]
    · rw [if_neg hc, if_neg hc]
      cases hh : hasL nm r with
      | true => rw [if_pos rfl, ih]
      | false => rw [if_neg (by decide), (numL_nn nm r).2 hh]
theorem ofM_rev (l : List Dir) (h : l.Pairwise (fun a b => nmD a ≠ nmD b)) : ofM l.reverse = ofM l := by
  unfold ofM
  simp only [hasL_rev, numL_rev _ l h]
theorem eqS_nm' (x y : Dir) : eqS x.1 y.1 = decide (nmD x = nmD y) := by
  have := B_eq (nmD x) (nmD y)
  rw [← B_of x.1, ← B_of y.1] at this
  exact this
theorem turned3 (l back : List Dir) (i : Nat) (hi : i < l.length) (hl : l.length ≤ 1000) (hb : back.length ≤ 5000) (K : Nat) (hK : 1000000 ≤ K) (r : _)
    (hr : (∀ a (ha : a < i), nmD (l[a]'(by omega)) ≠ nmD l[i]) → r (l, (true, (back ++ [l[i]], (i : Int) - 1))) = some true) :
    law10_LegacyTurned.l3 K r (l, (true, (back, ((i : Int), 0)))) = some true := by
  unfold law10_LegacyTurned.l3
  refine iter_eq (f := law10_LegacyTurned.l3b K r) (fun v => v.1 = l ∧ v.2.1 = true ∧ v.2.2.1 = back ∧ v.2.2.2.1 = (i : Int) ∧ ∃ j : Nat, v.2.2.2.2 = (j : Int) ∧ j ≤ i ∧ ∀ a (ha : a < j) (hai : a < i), nmD (l[a]'(by omega)) ≠ nmD l[i]) (fun v => (l.length + 1 - v.2.2.2.2).toNat) (fun _ => some true) ?_ K _ ⟨rfl, rfl, rfl, rfl, 0, rfl, Nat.zero_le _, fun a ha => absurd ha (Nat.not_lt_zero _)⟩ (by show ((l.length : Int) + 1 - 0).toNat < K; omega)
  rintro r' ⟨s, b, a, i', j'⟩ ⟨h1, h2, h3, h4, j, h5, hj, h6⟩ hrr
  simp only at h1 h2 h3 h4 h5
  subst h1; subst h2; subst h3; subst h4; subst h5
  unfold law10_LegacyTurned.l3b
  simp only [lenL_nat, ltI_nat, inB_nat, ifO_dec]
  by_cases h : j < i
  · rw [if_pos h, if_pos (by omega), if_pos hi, elT_get (t := .agg (.pair .str (.pair .str .bool))) (xs := s) (show j < s.length by omega), elT_get (t := .agg (.pair .str (.pair .str .bool))) (xs := s) hi, eqS_nm', ifO_dec]
    by_cases he : nmD (s[j]'(by omega)) = nmD s[i]
    · rw [if_pos he]
    · rw [if_neg he, next64 (by omega)]
      refine hrr _ ⟨rfl, rfl, rfl, rfl, j + 1, rfl, h, fun x hx hxi => ?_⟩ (by show ((s.length : Int) + 1 - ((j + 1 : Nat) : Int)).toNat < ((s.length : Int) + 1 - (j : Int)).toNat; omega)
      rcases Nat.lt_or_ge x j with g | g
      · exact h6 x g hxi
      · obtain rfl : x = j := by omega
        exact he
  · rw [if_neg h, if_pos hi, elT_get (t := .agg (.pair .str (.pair .str .bool))) (xs := s) hi, show ∀ x : Dir, (([(x.1, (x.2.1, x.2.2))] : List Dir).length : Int) = ((1 : Nat) : Int) from fun _ => rfl, fitsL_yes (by omega) (by omega), ifO_true, sub64 (by omega) (by omega)]
    exact hr (fun x hx => h6 x (by omega) hx)
theorem LegacyTurned (l : List Dir) (w0 : l.length ≤ 140737488351232 ∧ ∀ x ∈ l, Ty.Wf (.agg (.pair .str (.pair .str .bool))) x) : ∃ k, law10_LegacyTurned.f k l = some true := by
  refine ⟨1000010, ?_⟩
  unfold law10_LegacyTurned.f
  rw [awake10, bindO_some, own_is l w0.1 (wf_dirs w0) _ (by omega), bindO_some]
  simp only
  rw [show ltI 1000 ((ownM 0 l).2 : Int) = decide (1000 < (ownM 0 l).2) from ltI_nat 1000 _, ifO_dec]
  by_cases h1 : 1000 < (ownM 0 l).2
  · rw [if_pos h1]
  rw [if_neg h1]
  obtain ⟨_, e1⟩ := own_small l (by omega)
  have l1 := sumD_len l
  rw [lenL_nat, sub64 (by omega) (by omega)]
  unfold law10_LegacyTurned.l2
  refine iter_eq (f := law10_LegacyTurned.l2b 1000010) (fun v => v.1 = l ∧ v.2.1 = true ∧ ∃ j : Nat, v.2.2.2 = (j : Int) - 1 ∧ j ≤ l.length ∧ v.2.2.1 = (l.drop j).reverse ∧ ∀ a b (hab : a < b) (hb : b < l.length), j ≤ b → nmD (l[a]'(by omega)) ≠ nmD l[b]) (fun v => (v.2.2.2 + 2).toNat) (fun _ => some true) ?_ _ _ ⟨rfl, rfl, l.length, rfl, Nat.le_refl _, by simp, fun a b _ hb hle => absurd hb (by omega)⟩ (by show ((l.length : Int) - 1 + 2).toNat < 1000010; omega)
  rintro r ⟨s, b, back, j'⟩ ⟨g1, g2, j, g3, hj, g4, g5⟩ hr
  simp only at g1 g2 g3 g4
  subst g1; subst g2; subst g3; subst g4
  unfold law10_LegacyTurned.l2b
  simp only [leD, ifO_dec]
  by_cases h : 1 ≤ j
  · obtain ⟨i, rfl⟩ : ∃ i, j = i + 1 := ⟨j - 1, by omega⟩
    rw [if_pos (by omega), show ((i + 1 : Nat) : Int) - 1 = (i : Int) by omega]
    refine turned3 s _ i (by omega) (by omega) (by rw [List.length_reverse, List.length_drop]; omega) _ (by omega) r (fun hne => ?_)
    refine hr _ ⟨rfl, rfl, i, rfl, by omega, ?_, fun x y hxy hy hle => ?_⟩ (by show ((i : Int) - 1 + 2).toNat < (((i + 1 : Nat) : Int) - 1 + 2).toNat; omega)
    · show _ ++ [s[i]] = _
      rw [List.drop_eq_getElem_cons (show i < s.length by omega), List.reverse_cons]
    · rcases Nat.lt_or_ge i y with g | g
      · exact g5 x y hxy hy (by omega)
      · obtain rfl : y = i := by omega
        exact hne x hxy
  · obtain rfl : j = 0 := by omega
    rw [if_neg (by omega), List.drop_zero, ifO_true]
    have hp : s.Pairwise (fun a b => nmD a ≠ nmD b) := by
      rw [List.pairwise_iff_getElem]
      intro a b ha hb hab
      exact g5 a b hab hb (Nat.zero_le _)
    rw [of_is s.reverse (by rw [List.length_reverse]; omega) (fun d hd => by have := sumD_mem (List.mem_reverse.1 hd); omega) _ (by omega), bindO_some, of_small s (by omega) _ (by omega), bindO_some, ofM_rev s hp, eqD_refl _ rfl, ifO_true, of_small [] (by decide) _ (by omega), bindO_some]
    rfl
end Go.Proofs.YtkjjegjafpefcaaDoor.R
