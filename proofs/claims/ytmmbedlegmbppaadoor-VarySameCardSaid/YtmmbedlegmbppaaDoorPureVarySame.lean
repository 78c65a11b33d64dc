/- VarySame, told in plain words. -/
import Derived.Test.YtmmbedlegmbppaaDoorPVary2
import Derived.Test.YtmmbedlegmbppaaDoorPureVaryTells
namespace Go.Proofs.YtmmbedlegmbppaaDoor.R
open Go Go.RowKit
set_option linter.unusedSimpArgs false
set_option linter.unusedVariables false
theorem and_snoc (s : List ByteArray) (i : Nat) (h : i < s.length) (p : ByteArray → Bool) : (s.take (i + 1)).all p = ((s.take i).all p && p s[i]) := by
  rw [List.take_add_one, List.getElem?_eq_getElem h, List.all_append]
  simp
theorem lessV_snoc (names : List ByteArray) (a : List Fld) (i : Nat) (h : i < a.length) : lessV names (a.take (i + 1)) = lessV names (a.take i) ++ (if (names.any fun n => eqS a[i].1 n) = true then [a[i]] else []) := by
  unfold lessV
  rw [List.take_add_one, List.getElem?_eq_getElem h, List.filter_append]
  congr 1
  show List.filter _ [a[i]] = _
  rw [List.filter_cons, List.filter_nil]
theorem VarySame (names : List ByteArray) (a b : List Fld) (w0 : names.length ≤ 140737488351232 ∧ ∀ x ∈ names, Ty.Wf .str x) (w1 : a.length ≤ 140737488351232 ∧ ∀ x ∈ a, Ty.Wf (.agg (.pair .str .str)) x) (w2 : b.length ≤ 140737488351232 ∧ ∀ x ∈ b, Ty.Wf (.agg (.pair .str .str)) x) : ∃ k, law15_VarySame.f k (names, (a, b)) = some true := by
  refine ⟨1000010, ?_⟩
  unfold law15_VarySame.f
  have up : law15_VarySame.j2 1000010 (names, (a, (b, (true, true)))) = some true := rfl
  rw [awake15, bindO_some]
  simp only
  rw [size_is' a w1.1 (fits_of' w1.2) _ (by omega), bindO_some, show ltI 2000 ((szs 0 a : Nat) : Int) = decide (2000 < szs 0 a) from ltI_nat 2000 _, ifO_dec]
  by_cases h1 : 2000 < szs 0 a
  · rw [if_pos h1]; exact up
  rw [if_neg h1, size_is' b w2.1 (fits_of' w2.2) _ (by omega), bindO_some, show ltI 2000 ((szs 0 b : Nat) : Int) = decide (2000 < szs 0 b) from ltI_nat 2000 _, ifO_dec]
  by_cases h2 : 2000 < szs 0 b
  · rw [if_pos h2]; exact up
  rw [if_neg h2, lenL_nat, show ltI 10 (names.length : Int) = decide (10 < names.length) from ltI_nat 10 _]
  by_cases h3 : 10 < names.length
  · rw [decide_eq_true h3]; exact up
  rw [decide_eq_false h3]
  have ha : sumF a ≤ 2000 := by have := szs_small 2000 (by decide) a 0 (by omega); omega
  have hb : sumF b ≤ 2000 := by have := szs_small 2000 (by decide) b 0 (by omega); omega
  have la := sumF_len a
  unfold law15_VarySame.j2
  simp only
  rw [ifO_false]
  -- what is left where all names are short
  have less : sum1 names ≤ 10000 → law15_VarySame.l10 1000010 (names, (a, (true, (B (variantV names a), (([] : List Fld), (0 : Int)))))) = some true := by
    intro hn
    unfold law15_VarySame.l10
    refine iter_eq (f := law15_VarySame.l10b 1000010) (fun v => v.1 = names ∧ v.2.1 = a ∧ v.2.2.1 = true ∧ v.2.2.2.1 = B (variantV names a) ∧ ∃ i : Nat, v.2.2.2.2.2 = (i : Int) ∧ i ≤ a.length ∧ v.2.2.2.2.1 = lessV names (a.take i)) (fun v => (a.length + 1 - v.2.2.2.2.2).toNat) (fun _ => some true) ?_ _ _ ⟨rfl, rfl, rfl, rfl, 0, rfl, Nat.zero_le _, rfl⟩ (by show ((a.length : Int) + 1 - 0).toNat < 1000010; omega)
    rintro r ⟨s, a', u, x, ls, i'⟩ ⟨e1, e2, e3, e4, i, e5, hi, e6⟩ hr
    simp only at e1 e2 e3 e4 e5 e6
    subst e1; subst e2; subst e3; subst e4; subst e5; subst e6
    unfold law15_VarySame.l10b
    simp only [lenL_nat, inB_nat, ltI_nat, ifO_dec]
    by_cases h : i < a'.length
    · rw [if_pos h]
      have hlt : ((a'.length : Int) + 1 - ((i + 1 : Nat) : Int)).toNat < ((a'.length : Int) + 1 - (i : Int)).toNat := by omega
      have j12 : ∀ ls, ls = lessV s (a'.take (i + 1)) → law15_VarySame.j12 1000010 r (s, (a', (true, (B (variantV s a'), (ls, (i : Int)))))) = some true := by
        rintro ls rfl
        unfold law15_VarySame.j12
        simp only
        rw [next64 (by omega)]
        exact hr _ ⟨rfl, rfl, rfl, rfl, i + 1, rfl, h, rfl⟩ hlt
      have hll : (lessV s (a'.take i)).length ≤ a'.length := Nat.le_trans (List.length_filter_le _ _) (by rw [List.length_take]; omega)
      unfold law15_VarySame.l11
      refine iter_eq (f := law15_VarySame.l11b 1000010 r) (fun v => v.1 = s ∧ v.2.1 = a' ∧ v.2.2.1 = true ∧ v.2.2.2.1 = B (variantV s a') ∧ v.2.2.2.2.1 = lessV s (a'.take i) ∧ v.2.2.2.2.2.1 = (i : Int) ∧ ∃ m : Nat, v.2.2.2.2.2.2 = (m : Int) ∧ m ≤ s.length ∧ (s.take m).any (fun n => eqS a'[i].1 n) = false) (fun v => (s.length + 1 - v.2.2.2.2.2.2).toNat) (fun _ => some true) ?_ _ _ ⟨rfl, rfl, rfl, rfl, rfl, rfl, 0, rfl, Nat.zero_le _, rfl⟩ (by show ((s.length : Int) + 1 - 0).toNat < 1000010; omega)
      rintro r' ⟨s1, a1, u1, x1, l1, i1, m'⟩ ⟨g1, g2, g3, g4, g5, g6, m, g7, hm, g8⟩ hr'
      simp only at g1 g2 g3 g4 g5 g6 g7
      subst g1; subst g2; subst g3; subst g4; subst g5; subst g6; subst g7
      unfold law15_VarySame.l11b
      simp only [lenL_nat, inB_nat, ltI_nat, ifO_dec]
      by_cases hk : m < s1.length
      · rw [if_pos hk, if_pos h, if_pos hk, elT_get (t := .agg (.pair .str .str)) (xs := a1) h, elT_get (t := .str) (xs := s1) hk]
        cases hq : eqS a1[i].1 s1[m] with
        | true =>
          rw [ifO_true, if_pos h, ifO_yes (show fitsL ((lessV s1 (a1.take i)).length : Int) (([(a1[i].1, a1[i].2)] : List Fld).length : Int) 32 = true from fitsL_yes (n := (lessV s1 (a1.take i)).length) (m := 1) (bytes := 32) (by omega) (by omega))]
          refine j12 _ ?_
          rw [lessV_snoc _ _ _ h, if_pos]
          · rfl
          · rw [List.any_eq_true]; exact ⟨_, List.getElem_mem hk, hq⟩
        | false =>
          rw [ifO_false, next64 (by omega)]
          refine hr' _ ⟨rfl, rfl, rfl, rfl, rfl, rfl, m + 1, rfl, hk, ?_⟩ (by show ((s1.length : Int) + 1 - ((m + 1 : Nat) : Int)).toNat < ((s1.length : Int) + 1 - (m : Int)).toNat; omega)
          rw [List.take_add_one, List.getElem?_eq_getElem hk, List.any_append, g8]
          simp [hq]
      · rw [if_neg hk]
        refine j12 _ ?_
        rw [List.take_of_length_le (by omega)] at g8
        rw [lessV_snoc _ _ _ h, if_neg (by rw [g8]; decide), List.append_nil]
    · rw [if_neg h, ifO_true, List.take_of_length_le (by omega)]
      have hlv : sumF (lessV s a') ≤ 100000 := Nat.le_trans (sumF_filter _ _) (by omega)
      rw [variant_is s _ hn hlv _ (by omega), bindO_some, variant_less, eqS_self]
  unfold law15_VarySame.l3
  refine iter_eq (f := law15_VarySame.l3b 1000010) (fun v => v.1 = names ∧ v.2.1 = a ∧ v.2.2.1 = b ∧ v.2.2.2.1 = true ∧ ∃ i : Nat, v.2.2.2.2.2 = (i : Int) ∧ i ≤ names.length ∧ v.2.2.2.2.1 = (names.take i).all (sameN a b) ∧ sum1 (names.take i) ≤ 51 * i) (fun v => (names.length + 1 - v.2.2.2.2.2).toNat) (fun _ => some true) ?_ _ _ ⟨rfl, rfl, rfl, rfl, 0, rfl, Nat.zero_le _, rfl, Nat.le_refl _⟩ (by show ((names.length : Int) + 1 - 0).toNat < 1000010; omega)
  rintro r ⟨s, a', b', u, z, i'⟩ ⟨e1, e2, e3, e4, i, e5, hi, e6, hs⟩ hr
  simp only at e1 e2 e3 e4 e5 e6
  subst e1; subst e2; subst e3; subst e4; subst e5; subst e6
  unfold law15_VarySame.l3b
  simp only [lenL_nat, inB_nat, ltI_nat, ifO_dec]
  by_cases h : i < s.length
  · have hx := len_data s[i]
    rw [if_pos h, if_pos h, elT_get (t := .str) (xs := s) h, show ltI 50 (lenS s[i]) = decide (50 < s[i].size) from ltI_nat 50 _, ifO_dec]
    by_cases h5 : 50 < s[i].size
    · rw [if_pos h5]
    rw [if_neg h5, if_pos h, show ref01_Token.f 1000010 s[i] = some (tokB s[i].data.toList) from (congrArg (ref01_Token.f 1000010) (B_of s[i])).trans (r1token _ (by omega) _ (by omega) (by omega)), bindO_some]
    cases ht : tokB s[i].data.toList with
    | false => rw [show notB false = true from rfl, ifO_true]
    | true =>
      rw [show notB true = false from rfl, ifO_false, if_pos h, value_is a' _ (by omega) _ (by omega), bindO_some, if_pos h, value_is b' _ (by omega) _ (by omega), bindO_some]
      simp only
      have hlt : ((s.length : Int) + 1 - ((i + 1 : Nat) : Int)).toNat < ((s.length : Int) + 1 - (i : Int)).toNat := by omega
      have hs1 : sum1 (s.take (i + 1)) ≤ 51 * (i + 1) := by
        rw [List.take_add_one, List.getElem?_eq_getElem h]
        show sum1 (s.take i ++ [s[i]]) ≤ _
        rw [sum1_snoc]; omega
      have j7 : ∀ z, z = (s.take (i + 1)).all (sameN a' b') → law15_VarySame.j7 1000010 r (s, (a', (b', (true, (z, (i : Int)))))) = some true := by
        rintro z rfl
        unfold law15_VarySame.j7
        simp only
        rw [next64 (by omega)]
        exact hr _ ⟨rfl, rfl, rfl, rfl, i + 1, rfl, h, rfl, hs1⟩ hlt
      cases hz : (s.take i).all (sameN a' b') with
      | false =>
        rw [ifO_false]
        exact j7 _ (by rw [and_snoc s i h, hz]; rfl)
      | true =>
        rw [ifO_true, B_eq, ifO_dec]
        by_cases hv : valV s[i] a' = valV s[i] b'
        · rw [if_pos hv]
          refine j7 _ ?_
          rw [and_snoc s i h, hz]
          unfold sameN eqB
          rw [decide_eq_true hv]; simp
        · rw [if_neg hv]
          refine j7 _ ?_
          rw [and_snoc s i h, hz]
          unfold sameN
          rw [decide_eq_false hv]; rfl
  · rw [if_neg h]
    rw [List.take_of_length_le (by omega)] at hs ⊢
    have hn : sum1 s ≤ 10000 := by omega
    rw [variant_is s a' hn (by omega) _ (by omega), bindO_some, variant_is s b' hn (by omega) _ (by omega), bindO_some, B_eq]
    have e : decide (variantV s a' = variantV s b') = s.all (sameN a' b') := by
      rw [Bool.eq_iff_iff, decide_eq_true_eq]
      exact ⟨variant_inj s, variant_same s⟩
    rw [e, show eqB (s.all (sameN a' b')) (s.all (sameN a' b')) = true from by unfold eqB; simp, show notB true = false from rfl, ifO_false]
    exact less hn
end Go.Proofs.YtmmbedlegmbppaaDoor.R
