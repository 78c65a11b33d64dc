/- AgeTells: what is told is what the document tells; no condition. -/
import Derived.Test.YtpddbfodjeoofaaPGet
import Derived.Test.YtpddbfodjeoofaaPRef5b
import Derived.Test.YtpddbfodjeoofaaPureAgeGrows
namespace Go.Proofs.Ytpddbfodjeoofaa.R
open Go Go.RowKit
set_option linter.unusedSimpArgs false
set_option linter.unusedVariables false
theorem r13sum (l : List Int) (hl : l.length ≤ 1000) (k : Nat) (hk : l.length + 1 < k) : ref13_Sum.f k l = some (tp (sumC l)) := by
  unfold ref13_Sum.f ref13_Sum.l0
  refine iter_eq (f := ref13_Sum.l0b k) (fun v => v.1 = l ∧ ∃ i : Nat, v.2.2 = (i : Int) ∧ i ≤ l.length ∧ v.2.1 = sumC (l.take i)) (fun v => (l.length + 1 - v.2.2).toNat) (fun _ => some (tp (sumC l))) ?_ k (l, ((0 : Int), (0 : Int))) ⟨rfl, 0, rfl, Nat.zero_le _, rfl⟩ (by show ((l.length : Int) + 1 - 0).toNat < k; omega)
  rintro r ⟨s, n, i'⟩ ⟨h1, i, h3, hi, h4⟩ hr
  simp only at h1 h3 h4
  subst h1; subst h3; subst h4
  unfold ref13_Sum.l0b
  simp only [lenL_nat, ltI_nat, inB_nat, ifO_dec]
  by_cases h : i < s.length
  · have htk : s.take (i + 1) = s.take i ++ [s[i]] := by rw [List.take_add_one, List.getElem?_eq_getElem h]; rfl
    have b1 := sumC_bd (s.take i)
    have b2 := cl_bd s[i]
    rw [List.length_take, Nat.min_eq_left (by omega)] at b1
    rw [if_pos h, if_pos h, elT_get (t := .int .i64) (xs := s) h, minI_eq, maxI_eq]
    rw [show min (max s[i] (-1099511627776)) 1099511627776 = cl s[i] from rfl, add64 (by omega) (by omega), next64 (by omega)]
    exact hr _ ⟨rfl, i + 1, rfl, h, by rw [htk, sumC_snoc]⟩ (by show ((s.length : Int) + 1 - ((i + 1 : Nat) : Int)).toNat < ((s.length : Int) + 1 - (i : Int)).toNat; omega)
  · rw [if_neg h, minI_eq, maxI_eq, List.take_of_length_le (by omega)]
    rfl
theorem r13clamp (x : Int) (k : Nat) : ref13_Clamp.f k x = some (c0 x) := by unfold ref13_Clamp.f; rw [minI_eq, maxI_eq]; rfl
theorem c0_bd (x : Int) : 0 ≤ c0 x ∧ c0 x ≤ 1099511627776 := by unfold c0; omega
theorem r13behind (x y : Int) (k : Nat) : ref13_behind.f k (x, y) = some (max (c0 x - c0 y) 0) := by
  have h1 := c0_bd x
  have h2 := c0_bd y
  unfold ref13_behind.f
  simp only
  rw [r13clamp, bindO_some, r13clamp, bindO_some, sub64 (by omega) (by omega), maxI_eq]
theorem r13told (l : List Fld) (h : sumF l ≤ 100000) (k : Nat) (hk : 100010 ≤ k) : ref13_Told.f k l = some (toldV l) := by
  have h2 := getV_len (⟨#[97, 103, 101]⟩ : ByteArray) l
  unfold ref13_Told.f
  rw [r6get _ l h k hk, bindO_some, r1digits _ (by omega) k (by omega), bindO_some]
  rfl
theorem r13date (l : List Fld) (h : sumF l ≤ 100000) (o : Int) (k : Nat) (hk : 100010 ≤ k) : ref13_Date.f k (l, o) = some (dateV l o) := by
  unfold ref13_Date.f
  rw [r6get _ l h k hk, bindO_some, r5parse _ k (by omega), bindO_some]
  unfold dateV
  cases Pure.found (getV (⟨#[100, 97, 116, 101]⟩ : ByteArray) l) with
  | none =>
    show ifO (neI 2 0) _ _ = _
    rw [show neI 2 0 = true from rfl, ifO_true, r13clamp]; rfl
  | some a =>
    show ifO (neI 0 0) _ _ = _
    rw [show neI 0 0 = false from rfl, ifO_false, r13clamp]; rfl
theorem c0_c0 (x : Int) : c0 (c0 x) = c0 x := by unfold c0; omega
theorem c0_date (l : List Fld) (o : Int) : c0 (dateV l o) = dateV l o := by have := dateV_bd l o; unfold c0; omega
theorem date_c0 (l : List Fld) (o : Int) : dateV l (c0 o) = dateV l o := by unfold dateV; split <;> simp [c0_c0]
theorem r13cur (l : List Fld) (h : sumF l ≤ 100000) (a g n : Int) (k : Nat) (hk : 100010 ≤ k) : ref13_Current.f k (l, (a, (g, n))) = some (curV l a g n) := by
  have hd := dateV_bd l g
  have ht := toldV_bd l
  have b2 := c0_bd a
  have b3 := c0_bd g
  have b4 := c0_bd n
  unfold ref13_Current.f
  simp only
  rw [r13date l h g k hk, bindO_some, r13behind, bindO_some, r13told l h k hk, bindO_some, r13behind, bindO_some, r13behind, bindO_some, c0_date, maxI_eq, add64 (by omega) (by omega), r13sum _ (by simp) k (by simp; omega), bindO_some]
  unfold curV
  rw [date_c0]
  simp only [sumC, Int.add_zero]
  congr 1
  generalize dateV l g = d at hd
  generalize toldV l = o at ht
  generalize c0 a = a at b2
  generalize c0 g = g at b3
  generalize c0 n = n at b4
  have e1 : cl (max (n - g) 0) = max (n - g) 0 := by unfold cl; omega
  have e2 : cl (max (g - a) 0) = max (g - a) 0 := by unfold cl; omega
  have e3 : cl o = o := by unfold cl; omega
  have e4 : cl (g - d) = g - d := by unfold cl; omega
  rw [e1, e2, e3, e4]
  generalize g - d = x
  have b5 : 0 ≤ max (n - g) 0 := by omega
  have b6 : 0 ≤ max (g - a) 0 ∧ max (g - a) 0 ≤ 1099511627776 := by omega
  generalize max (n - g) 0 = z at b5
  generalize max (g - a) 0 = y at b6
  have k1 : max (tp x) (tp (o + y)) = min (max (max x 0) (o + y)) 2147483648 := by unfold tp; omega
  rw [k1]
  have k2 : 0 ≤ max (max x 0) (o + y) := by omega
  generalize max (max x 0) (o + y) = M at k2
  have k3 : cl (min M 2147483648) = min M 2147483648 := by unfold cl; omega
  have k4 : cl M = min M 1099511627776 := by unfold cl; omega
  rw [k3, k4]
  have k5 : ∀ x : Int, 2147483648 ≤ x → tp x = 2147483648 := by intro x h; unfold tp; omega
  by_cases hM : M ≤ 2147483648
  · rw [show min M 1099511627776 = M by omega, show min M 2147483648 = M by omega]
  · have k6 : 2147483648 ≤ min M 1099511627776 := by omega
    have k7 : 2147483648 ≤ min M 2147483648 := by omega
    rw [k5 _ (by omega), k5 _ (by omega)]
theorem AgeTells (l : List Fld) (n : List Int) (t : Int × (Int × Int)) (w0 : l.length ≤ 140737488351232 ∧ ∀ x ∈ l, Ty.Wf (.agg (.pair .str .str)) x) (w1 : n.length ≤ 140737488351232 ∧ ∀ x ∈ n, Ty.Wf (.int .i64) x) (w2 : Ty.Wf (.agg (.pair (.int .i64) (.pair (.int .i64) (.int .i64)))) t) : ∃ k, law13_AgeTells.f k (l, (n, t)) = some true := by
  obtain ⟨a, g, m⟩ := t
  refine ⟨l.length + 100020, ?_⟩
  unfold law13_AgeTells.f
  rw [awake_is _ (by omega), bindO_some, size_is l w0.1 (fits_of w0.2) _ (by omega), bindO_some]
  rw [show ltI 2000 ((szs 0 l : Nat) : Int) = decide (2000 < szs 0 l) from ltI_nat 2000 _, ifO_dec]
  by_cases hs : 2000 < szs 0 l
  · rw [if_pos hs]
  rw [if_neg hs]
  have hsum : sumF l ≤ 100000 := by have := szs_small l 0 (by omega); omega
  rw [lenL_nat, show ltI 20 (n.length : Int) = decide (20 < n.length) from ltI_nat 20 _, ifO_dec]
  by_cases hn : 20 < n.length
  · rw [if_pos hn]
  have q : ∀ x : Int, eqI x x = true := fun x => by rw [eqI_dec]; simp
  rw [if_neg hn, ifO_true, sum_is n (by omega) _ (by omega), bindO_some, r13sum n (by omega) _ (by omega), bindO_some, q, ifO_true, clamp_is, bindO_some, r13clamp, bindO_some, show min (max a 0) 1099511627776 = c0 a from rfl, q, ifO_true,
    told_is l hsum _ (by omega), bindO_some, r13told l hsum _ (by omega), bindO_some, q, ifO_true, date_is l hsum, bindO_some, r13date l hsum _ _ (by omega), bindO_some, q, ifO_true, cur_is l hsum _ _ _ _ (by omega), bindO_some, r13cur l hsum _ _ _ _ (by omega), bindO_some, q]
end Go.Proofs.Ytpddbfodjeoofaa.R
