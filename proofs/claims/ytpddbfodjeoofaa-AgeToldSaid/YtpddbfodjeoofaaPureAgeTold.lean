/- AgeTold: a greater age that is told, or a longer way, lets it be no younger; no condition. -/
import Derived.Test.YtpddbfodjeoofaaPureAgeGrows
import Derived.Test.YtpddbfodjeoofaaF1
namespace Go.Proofs.Ytpddbfodjeoofaa.R
open Go Go.RowKit
set_option linter.unusedSimpArgs false
set_option linter.unusedVariables false
theorem with_is (l : List Fld) (nm v : ByteArray) (hl : l.length ≤ 100000) (k : Nat) : head_With.f k (l, (nm, v)) = some (l ++ [(nm, v)]) := by
  unfold head_With.f
  have e : cutL l 0 (lenL l) = l := by unfold cutL lenL; rw [Int.toNat_natCast, List.take_length]; rfl
  have c : andB (andB (boundB (lenL l) (lenL l)) (boundB 0 (lenL l))) (eqI (lenL l) (lenL l)) = true := by
    rw [lenL_nat, boundB_yes (Nat.le_refl _), show (0 : Int) = ((0 : Nat) : Int) from rfl, boundB_yes (Nat.zero_le _), eqI_dec]; simp [andB]
  rw [c, ifO_true, e, lenL_nat, lenL_nat, fitsL_yes (by simp only [List.length_cons, List.length_nil]; omega) (by simp only [List.length_cons, List.length_nil]; omega), ifO_true]
  rfl
theorem sumF_cons (f : Fld) (r : List Fld) : sumF (f :: r) = f.1.size + f.2.size + 4 + sumF r := rfl
theorem sumF_left (ns : List ByteArray) : ∀ l : List Fld, sumF (XW.left ns l) ≤ sumF l
  | [] => Nat.le_refl _
  | f :: r => by
    have ih := sumF_left ns r
    unfold XW.left XW.stay at ih ⊢
    rw [List.filter_cons, sumF_cons]
    split
    · rw [sumF_cons]; omega
    · omega
theorem sumF_snoc (f : Fld) : ∀ l : List Fld, sumF (l ++ [f]) = sumF l + (f.1.size + f.2.size + 4)
  | [] => by show f.1.size + f.2.size + 4 + 0 = 0 + _; omega
  | g :: r => by
    rw [List.cons_append, sumF_cons, sumF_cons, sumF_snoc f r]
    omega
theorem vals_left (nm : ByteArray) : ∀ l : List Fld, XG.vals nm (XW.left [nm] l) = []
  | [] => rfl
  | f :: r => by
    have ih := vals_left nm r
    unfold XW.left XW.stay at ih ⊢
    unfold XG.vals at ih ⊢
    rw [List.filter_cons]
    split
    · rename_i h
      rw [List.filter_cons]
      have : (f.1.toList == nm.toList) = false := by simpa using h
      rw [if_neg (by rw [this]; decide)]
      exact ih
    · exact ih
theorem AgeTold (l : List Fld) (t : Int × (Int × (Int × Int))) (d : ByteArray) (w0 : l.length ≤ 140737488351232 ∧ ∀ x ∈ l, Ty.Wf (.agg (.pair .str .str)) x) (w1 : Ty.Wf (.agg (.pair (.int .i64) (.pair (.int .i64) (.pair (.int .i64) (.int .i64))))) t) (w2 : Ty.Wf .str d) : ∃ k, law13_AgeTold.f k (l, (t, d)) = some true := by
  obtain ⟨a, g, n, m⟩ := t
  refine ⟨l.length + 100020, ?_⟩
  unfold law13_AgeTold.f
  rw [awake_is _ (by omega), bindO_some, size_is l w0.1 (fits_of w0.2) _ (by omega), bindO_some]
  rw [show ltI 2000 ((szs 0 l : Nat) : Int) = decide (2000 < szs 0 l) from ltI_nat 2000 _, ifO_dec]
  by_cases hs : 2000 < szs 0 l
  · rw [if_pos hs]
  rw [if_neg hs]
  have hsum : sumF l ≤ 2000 := by have := szs_small l 0 (by omega); omega
  have hlen := sumF_len l
  rw [show ltI 30 (lenS d) = decide (30 < d.size) from ltI_nat 30 _, ifO_dec]
  by_cases hd : 30 < d.size
  · rw [if_pos hd]
  rw [if_neg hd]
  obtain ⟨q, hq⟩ : ∃ q, XW.left [(⟨#[97, 103, 101]⟩ : ByteArray)] l = q := ⟨_, rfl⟩
  have hsq := sumF_left [(⟨#[97, 103, 101]⟩ : ByteArray)] l
  have hvq := vals_left (⟨#[97, 103, 101]⟩ : ByteArray) l
  rw [hq] at hsq hvq
  have hlq := sumF_len q
  have hwo : head_Without.f (l.length + 100020) (l, ((⟨#[97, 103, 101]⟩ : ByteArray) :: ([] : List ByteArray))) = some q := by
    unfold head_Without.f
    rw [if_pos ⟨by show l.length ≤ 100000; omega, by show 1 ≤ 100000; omega⟩, ← hq]
  rw [hwo, bindO_some, cur_is q (by omega) _ _ _ _ (by omega), bindO_some, with_is q _ _ (by omega), bindO_some]
  have hsq2 : sumF (q ++ [((⟨#[97, 103, 101]⟩ : ByteArray), d)]) ≤ 100000 := by
    rw [sumF_snoc]
    show sumF q + (3 + d.size + 4) ≤ 100000
    omega
  rw [cur_is _ hsq2 _ _ _ _ (by omega), bindO_some, told_is q (by omega) _ (by omega), bindO_some]
  have ht0 : toldV q = 0 := by
    unfold toldV getV
    rw [hvq]
    rfl
  have hd0 : dateV (q ++ [((⟨#[97, 103, 101]⟩ : ByteArray), d)]) (c0 g) = dateV q (c0 g) := by
    unfold dateV getV
    rw [XG.vals_miss _ _ _ (by show (ByteArray.toList ⟨#[97, 103, 101]⟩ == ByteArray.toList ⟨#[100, 97, 116, 101]⟩) = false; rw [toList_data, toList_data]; rfl)]
  have key : curV q a g n ≤ curV (q ++ [((⟨#[97, 103, 101]⟩ : ByteArray), d)]) a g n ∧ curV q a g n ≤ curV q (min a m) g n := by
    unfold curV
    rw [hd0, ht0]
    have hb := toldV_bd (q ++ [((⟨#[97, 103, 101]⟩ : ByteArray), d)])
    generalize toldV (q ++ [((⟨#[97, 103, 101]⟩ : ByteArray), d)]) = o at hb
    generalize cl (c0 g - dateV q (c0 g)) = x
    have e1 : cl (max (c0 g - c0 a) 0) ≤ cl (max (c0 g - c0 (min a m)) 0) := by
      have : c0 (min a m) ≤ c0 a := by unfold c0; omega
      generalize c0 (min a m) = y at this
      generalize c0 a = z at this
      unfold cl; omega
    generalize cl (max (c0 g - c0 a) 0) = y at e1
    generalize cl (max (c0 g - c0 (min a m)) 0) = z at e1
    generalize cl (max (c0 n - c0 g) 0) = u
    have mono : ∀ p q : Int, p ≤ q → tp (cl (max (tp x) (tp p)) + u) ≤ tp (cl (max (tp x) (tp q)) + u) := by
      intro p q h
      have h1 : tp p ≤ tp q := by unfold tp; omega
      generalize tp p = p' at h1
      generalize tp q = q' at h1
      generalize tp x = x'
      have h2 : cl (max x' p') ≤ cl (max x' q') := by unfold cl; omega
      generalize cl (max x' p') = p'' at h2
      generalize cl (max x' q') = q'' at h2
      unfold tp; omega
    have h0 : cl 0 ≤ cl o := by unfold cl; omega
    exact ⟨mono _ _ (by omega), mono _ _ (by omega)⟩
  unfold ltI
  rw [ifO_dec, if_neg (show ¬ (curV (q ++ [((⟨#[97, 103, 101]⟩ : ByteArray), d)]) a g n < curV q a g n) from by have := key.1; omega), ht0, show neI 0 0 = false from rfl, ifO_false, minI_eq, cur_is q (by omega) _ _ _ _ (by omega), bindO_some, ifO_true]
  unfold leI
  rw [decide_eq_true key.2]
end Go.Proofs.Ytpddbfodjeoofaa.R
