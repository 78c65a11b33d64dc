/- AgeGrows: later it is no younger, and by no more than passed; no condition. -/
import Derived.Test.YtpddbfodjeoofaaPureAge
import Derived.Test.YtpddbfodjeoofaaRW
namespace Go.Proofs.Ytpddbfodjeoofaa.R
open Go Go.RowKit
set_option linter.unusedSimpArgs false
set_option linter.unusedVariables false
/-- The fields of the first small test. -/
def L0 : List Fld := [((⟨#[100, 97, 116, 101]⟩ : ByteArray), (⟨#[84, 104, 117, 44, 32, 48, 49, 32, 74, 97, 110, 32, 49, 57, 55, 48, 32, 48, 48, 58, 48, 49, 58, 48, 48, 32, 71, 77, 84]⟩ : ByteArray)), ((⟨#[97, 103, 101]⟩ : ByteArray), (⟨#[53]⟩ : ByteArray))]
theorem awake_is (k : Nat) (hk : 100010 ≤ k) : law13_awake.f k () = some true := by
  have s0 : sumF L0 ≤ 100000 := of_decide_eq_true (by kernel_rfl)
  have e1 : curV L0 100 110 130 = 70 := by kernel_rfl
  have e2 : toldV L0 = 5 := by kernel_rfl
  have e3 : dateV L0 7 = 60 := by kernel_rfl
  have e4 : dateV [] 7 = 7 := by kernel_rfl
  have e5 : tp (sumC [2147483648, 5]) = 2147483648 := by kernel_rfl
  have e6 : tp (sumC [3, -5]) = 0 := by kernel_rfl
  show bindO (age_Current.f k (L0, (100, (110, 130)))) _ = _
  rw [cur_is L0 s0 _ _ _ k hk, bindO_some, e1]
  show bindO (age_Told.f k L0) _ = _
  rw [told_is L0 s0 k hk, bindO_some, e2]
  show bindO (age_Date.f k (L0, 7)) _ = _
  rw [date_is L0 s0, bindO_some, e3]
  show bindO (age_Date.f k ([], 7)) _ = _
  rw [date_is [] (Nat.zero_le _), bindO_some, e4]
  show bindO (age_Sum.f k [2147483648, 5]) _ = _
  rw [sum_is _ (by decide) k (by show 2 + 1 < k; omega), bindO_some, e5]
  show bindO (age_Sum.f k [3, -5]) _ = _
  rw [sum_is _ (by decide) k (by show 2 + 1 < k; omega), bindO_some, e6]
  rfl
theorem fits_of {l : List Fld} (h : ∀ x ∈ l, Ty.Wf (.agg (.pair .str .str)) x) : Fits l := fun f hf => h f hf
theorem AgeGrows (l : List Fld) (t : Int × (Int × (Int × Int))) (w0 : l.length ≤ 140737488351232 ∧ ∀ x ∈ l, Ty.Wf (.agg (.pair .str .str)) x) (w1 : Ty.Wf (.agg (.pair (.int .i64) (.pair (.int .i64) (.pair (.int .i64) (.int .i64))))) t) : ∃ k, law13_AgeGrows.f k (l, t) = some true := by
  obtain ⟨a, g, n, m⟩ := t
  refine ⟨l.length + 100020, ?_⟩
  unfold law13_AgeGrows.f
  rw [awake_is _ (by omega), bindO_some, size_is l w0.1 (fits_of w0.2) _ (by omega), bindO_some]
  rw [show ltI 2000 ((szs 0 l : Nat) : Int) = decide (2000 < szs 0 l) from ltI_nat 2000 _, ifO_dec]
  by_cases hs : 2000 < szs 0 l
  · rw [if_pos hs]
  rw [if_neg hs]
  have hsum : sumF l ≤ 100000 := by have := szs_small l 0 (by omega); omega
  unfold ltI
  simp only [ifO_dec]
  by_cases hlt : m < n
  · rw [if_pos hlt]
  rw [if_neg hlt, cur_is l hsum _ _ _ _ (by omega), bindO_some, cur_is l hsum _ _ _ _ (by omega), bindO_some, clamp_is, bindO_some, clamp_is, bindO_some, ifO_true]
  unfold curV
  have hd := dateV_bd l (c0 g)
  have ht := toldV_bd l
  generalize dateV l (c0 g) = d at hd
  generalize toldV l = o at ht
  have key : ∀ n m : Int, n ≤ m → 0 ≤ tp (cl (max (tp (cl (c0 g - d))) (tp (cl o + cl (max (c0 g - c0 a) 0)))) + cl (max (c0 n - c0 g) 0)) ∧
      tp (cl (max (tp (cl (c0 g - d))) (tp (cl o + cl (max (c0 g - c0 a) 0)))) + cl (max (c0 n - c0 g) 0)) ≤ tp (cl (max (tp (cl (c0 g - d))) (tp (cl o + cl (max (c0 g - c0 a) 0)))) + cl (max (c0 m - c0 g) 0)) ∧
      tp (cl (max (tp (cl (c0 g - d))) (tp (cl o + cl (max (c0 g - c0 a) 0)))) + cl (max (c0 m - c0 g) 0)) ≤ 2147483648 ∧
      tp (cl (max (tp (cl (c0 g - d))) (tp (cl o + cl (max (c0 g - c0 a) 0)))) + cl (max (c0 m - c0 g) 0)) ≤ tp (cl (max (tp (cl (c0 g - d))) (tp (cl o + cl (max (c0 g - c0 a) 0)))) + cl (max (c0 n - c0 g) 0)) + (c0 m - c0 n) := by
    intro n m h
    have e : 0 ≤ cl (max (tp (cl (c0 g - d))) (tp (cl o + cl (max (c0 g - c0 a) 0)))) ∧ cl (max (tp (cl (c0 g - d))) (tp (cl o + cl (max (c0 g - c0 a) 0)))) ≤ 2147483648 := by
      generalize cl (c0 g - d) = x
      generalize cl o + cl (max (c0 g - c0 a) 0) = y
      unfold cl tp; omega
    generalize cl (max (tp (cl (c0 g - d))) (tp (cl o + cl (max (c0 g - c0 a) 0)))) = q at e
    have b1 : c0 n ≤ c0 m ∧ 0 ≤ c0 n ∧ c0 m ≤ 1099511627776 := by unfold c0; omega
    have b2 : 0 ≤ c0 g ∧ c0 g ≤ 1099511627776 := by unfold c0; omega
    generalize c0 n = x at b1
    generalize c0 m = y at b1
    generalize c0 g = z at b2
    unfold cl tp
    omega
  obtain ⟨k1, k2, k3, k4⟩ := key n m (by omega)
  have hc : subI .i64 (min (max m 0) 1099511627776) (min (max n 0) 1099511627776) = c0 m - c0 n := by
    rw [sub64 (by omega) (by omega)]; rfl
  rw [hc]
  generalize tp (cl (max (tp (cl (c0 g - d))) (tp (cl o + cl (max (c0 g - c0 a) 0)))) + cl (max (c0 n - c0 g) 0)) = A at k1 k2 k3 k4
  generalize tp (cl (max (tp (cl (c0 g - d))) (tp (cl o + cl (max (c0 g - c0 a) 0)))) + cl (max (c0 m - c0 g) 0)) = C at k1 k2 k3 k4
  have b1 : 0 ≤ c0 m ∧ c0 m ≤ 1099511627776 := by unfold c0; omega
  have b2 : 0 ≤ c0 n ∧ c0 n ≤ 1099511627776 := by unfold c0; omega
  rw [add64 (by omega) (by omega)]
  unfold leI
  simp only [ifO_dec]
  rw [if_pos k1, if_pos k2, if_pos k3, decide_eq_true k4]
end Go.Proofs.Ytpddbfodjeoofaa.R
