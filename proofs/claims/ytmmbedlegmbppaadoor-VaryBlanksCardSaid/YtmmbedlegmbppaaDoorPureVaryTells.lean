/- VaryTells, told in plain words. -/
import Derived.Test.YtmmbedlegmbppaaDoorPVary
import Derived.Test.YtmmbedlegmbppaaDoorPSize
namespace Go.Proofs.YtmmbedlegmbppaaDoor.R
open Go Go.RowKit
set_option linter.unusedSimpArgs false
set_option linter.unusedVariables false
theorem awake15 : law15_awake.f 1000010 () = some true := by
  unfold law15_awake.f
  rw [names_is _ (by decide +kernel) _ (by omega), bindO_some, names_is _ (by decide +kernel) _ (by omega), bindO_some]
  decide +kernel
/-- How great names are, told while they are not. -/
def szN : Nat → List ByteArray → Nat
  | n, [] => n
  | n, s :: r => if n < 1000 then szN (n + s.size + 1) r else n
theorem szN_cons (n : Nat) (s : ByteArray) (r : List ByteArray) : szN n (s :: r) = if n < 1000 then szN (n + s.size + 1) r else n := rfl
theorem szN_small (m : Nat) (hm : m < 1000) : ∀ (l : List ByteArray) (n : Nat), szN n l ≤ m → n + sum1 l ≤ m
  | [], n, h => h
  | s :: r, n, h => by
    unfold szN at h
    split at h
    · have := szN_small m hm r _ h; simp only [sum1]; omega
    · omega
theorem sum1_insA (s : ByteArray) : ∀ l : List ByteArray, sum1 (insA s l) ≤ sum1 l + (s.size + 1)
  | [] => by simp [insA, sum1]
  | t :: r => by
    have := sum1_insA s r
    unfold insA
    split
    · simp only [sum1]; omega
    · split <;> simp only [sum1] <;> omega
theorem sum1_rise (ps : List ByteArray) : sum1 (riseL ps) ≤ sum1 ps := by
  have : ∀ (ps l : List ByteArray), sum1 (ps.foldl (fun l s => insA s l) l) ≤ sum1 ps + sum1 l := by
    intro ps
    induction ps with
    | nil => intro l; simp [sum1]
    | cons p ps ih => intro l; have := ih (insA p l); have := sum1_insA p l; simp only [List.foldl_cons, sum1]; omega
  have := this ps []
  simpa [riseL, sum1] using this
theorem sum1_low : ∀ ps : List ByteArray, sum1 (ps.map lowA) = sum1 ps
  | [] => rfl
  | p :: r => by
    have := sum1_low r
    have h2 := len_data p
    simp only [List.map_cons, sum1, this]
    unfold lowA
    rw [B_size, lowL_len]; omega
theorem namesV_sum (p : List Fld) : sum1 (namesV p).1 ≤ sumF p + 1 := by
  unfold namesV namesR
  split
  · exact Nat.zero_le _
  · exact Nat.le_trans (sum1_rise _) (by rw [sum1_low]; exact partsV_sum varyN p)
theorem r1same' (l : List ByteArray) (hl : l.length ≤ 1000000) (k : Nat) (hk : l.length + 1 < k) : ref01_Same.f k (l, l) = some true := by
  unfold ref01_Same.f ref01_Same.l0
  simp only
  rw [neI_dec, decide_eq_false (by simp), ifO_false]
  refine iter_eq (f := ref01_Same.l0b k) (fun v => v.1 = l ∧ v.2.1 = l ∧ ∃ i : Nat, v.2.2 = (i : Int) ∧ i ≤ l.length) (fun v => (l.length + 1 - v.2.2).toNat) (fun _ => some true) ?_ k _ ⟨rfl, rfl, 0, rfl, Nat.zero_le _⟩ (by show ((l.length : Int) + 1 - 0).toNat < k; omega)
  rintro r ⟨s, t, i'⟩ ⟨e1, e2, i, e3, hi⟩ hr
  simp only at e1 e2 e3
  subst e1; subst e2; subst e3
  unfold ref01_Same.l0b
  simp only [lenL_nat, inB_nat, ltI_nat, ifO_dec]
  by_cases h : i < t.length
  · rw [if_pos h, if_pos h, if_pos h, eqS_self, show notB true = false from rfl, ifO_false, next64 (by omega)]
    exact hr _ ⟨rfl, rfl, i + 1, rfl, h⟩ (by show ((t.length : Int) + 1 - ((i + 1 : Nat) : Int)).toNat < ((t.length : Int) + 1 - (i : Int)).toNat; omega)
  · rw [if_neg h]
theorem VaryTells (p q : List Fld) (names : List ByteArray) (w0 : p.length ≤ 140737488351232 ∧ ∀ x ∈ p, Ty.Wf (.agg (.pair .str .str)) x) (w1 : q.length ≤ 140737488351232 ∧ ∀ x ∈ q, Ty.Wf (.agg (.pair .str .str)) x) (w2 : names.length ≤ 140737488351232 ∧ ∀ x ∈ names, Ty.Wf .str x) : ∃ k, law15_VaryTells.f k (p, (q, names)) = some true := by
  refine ⟨1000010, ?_⟩
  unfold law15_VaryTells.f law15_VaryTells.l1
  rw [awake15, bindO_some]
  -- where all is small
  have main : sumF p ≤ 2000 → sumF q ≤ 2000 → sum1 names ≤ 500 → law15_VaryTells.j4 1000010 (p, (q, (names, (true, false)))) = some true := by
    intro hp hq hn
    have hlen := sum1_len names
    have hns := namesV_sum p
    have hnl := sum1_len (namesV p).1
    unfold law15_VaryTells.j4 law15_VaryTells.l8
    simp only
    rw [ifO_false, names_is p (by omega) _ (by omega), bindO_some, r15names p (by omega) _ (by omega), bindO_some]
    rw [r1same' _ (by omega) _ (by omega), bindO_some]
    refine iter_eq (f := law15_VaryTells.l8b 1000010) (fun v => v.1 = q ∧ v.2.1 = names ∧ v.2.2.1 = true ∧ v.2.2.2.1 = (namesV p).1 ∧ v.2.2.2.2.1 = (namesV p).2 ∧ v.2.2.2.2.2.1 = (namesV p).2 ∧ v.2.2.2.2.2.2.1 = true ∧ ∃ i : Nat, v.2.2.2.2.2.2.2 = (i : Int) ∧ i ≤ names.length) (fun v => (names.length + 1 - v.2.2.2.2.2.2.2).toNat) (fun _ => some true) ?_ _ _ ⟨rfl, rfl, rfl, rfl, rfl, rfl, rfl, 0, rfl, Nat.zero_le _⟩ (by show ((names.length : Int) + 1 - 0).toNat < 1000010; omega)
    rintro r ⟨q', s, u, a, b, c, d, i'⟩ ⟨e1, e2, e3, e4, e5, e6, e7, i, e8, hi⟩ hr
    simp only at e1 e2 e3 e4 e5 e6 e7 e8
    subst e1; subst e2; subst e3; subst e4; subst e5; subst e6; subst e7; subst e8
    unfold law15_VaryTells.l8b
    simp only [lenL_nat, inB_nat, ltI_nat, ifO_dec]
    by_cases h : i < s.length
    · rw [if_pos h, if_pos h, value_is q' _ (by omega) _ (by omega), bindO_some, if_pos h, r15value q' _ (by omega) _ (by omega), bindO_some]
      simp only
      rw [eqS_self, show notB true = false from rfl, ifO_false, show eqB (isV (elT .str s (i : Int)) q') (isV (elT .str s (i : Int)) q') = true from by unfold eqB; simp, show notB true = false from rfl, ifO_false, next64 (by omega)]
      exact hr _ ⟨rfl, rfl, rfl, rfl, rfl, rfl, rfl, i + 1, rfl, h⟩ (by show ((s.length : Int) + 1 - ((i + 1 : Nat) : Int)).toNat < ((s.length : Int) + 1 - (i : Int)).toNat; omega)
    · rw [if_neg h, ifO_true, ifO_true, show eqB (namesV p).2 (namesV p).2 = true from by unfold eqB; simp, ifO_true, variant_is s q' (by omega) (by omega) _ (by omega), bindO_some, r15variant s q' (by omega) (by omega) _ (by omega), bindO_some, eqS_self, ifO_true, variant_is _ q' (by omega) (by omega) _ (by omega), bindO_some, r15variant _ q' (by omega) (by omega) _ (by omega), bindO_some, eqS_self]
  have up : law15_VaryTells.j4 1000010 (p, (q, (names, (true, true)))) = some true := rfl
  have j2 : ∀ n : Nat, n = szN 0 names → law15_VaryTells.j2 1000010 (p, (q, (names, (true, (n : Int))))) = some true := by
    intro n hn
    unfold law15_VaryTells.j2
    simp only
    rw [size_is' p w0.1 (fits_of' w0.2) _ (by omega), bindO_some, show ltI 2000 ((szs 0 p : Nat) : Int) = decide (2000 < szs 0 p) from ltI_nat 2000 _, ifO_dec]
    by_cases h1 : 2000 < szs 0 p
    · rw [if_pos h1]; exact up
    rw [if_neg h1, size_is' q w1.1 (fits_of' w1.2) _ (by omega), bindO_some, show ltI 2000 ((szs 0 q : Nat) : Int) = decide (2000 < szs 0 q) from ltI_nat 2000 _, ifO_dec]
    by_cases h2 : 2000 < szs 0 q
    · rw [if_pos h2]; exact up
    rw [if_neg h2, show ltI 500 (n : Int) = decide (500 < n) from ltI_nat 500 _]
    by_cases h3 : 500 < n
    · rw [decide_eq_true h3]; exact up
    rw [decide_eq_false h3]
    have e1 : sumF p ≤ 2000 := by have := szs_small 2000 (by decide) p 0 (by omega); omega
    have e2 : sumF q ≤ 2000 := by have := szs_small 2000 (by decide) q 0 (by omega); omega
    have e3 : sum1 names ≤ 500 := by have := szN_small 500 (by decide) names 0 (by omega); omega
    exact main e1 e2 e3
  refine iter_eq (f := law15_VaryTells.l1b 1000010) (fun v => v.1 = p ∧ v.2.1 = q ∧ v.2.2.1 = names ∧ v.2.2.2.1 = true ∧ ∃ n i : Nat, v.2.2.2.2.1 = (n : Int) ∧ v.2.2.2.2.2 = (i : Int) ∧ i ≤ names.length ∧ n ≤ 300000000000000 ∧ szN 0 names = szN n (names.drop i)) (fun v => (1001 - v.2.2.2.2.1).toNat) (fun _ => some true) ?_ _ _ ⟨rfl, rfl, rfl, rfl, 0, 0, rfl, rfl, Nat.zero_le _, by omega, rfl⟩ (by show ((1001 : Int) - 0).toNat < 1000010; omega)
  rintro r ⟨p', q', s, u, n', i'⟩ ⟨e1, e2, e3, e4, n, i, e5, e6, hi, hn, hz⟩ hr
  simp only at e1 e2 e3 e4 e5 e6
  subst e1; subst e2; subst e3; subst e4; subst e5; subst e6
  unfold law15_VaryTells.l1b
  simp only [lenL_nat, inB_nat, ltI_nat, ifO_dec]
  by_cases h : i < s.length
  · rw [List.drop_eq_getElem_cons h] at hz
    rw [szN_cons] at hz
    rw [if_pos h, show ltI (n : Int) 1000 = decide (n < 1000) from ltI_nat n 1000, ifO_dec]
    by_cases hb : n < 1000
    · have b1 : s[i].size ≤ 140737488351232 := w2.2 s[i] (List.getElem_mem h)
      rw [if_pos hb] at hz
      rw [if_pos hb, if_pos h, elT_get (t := .str) (xs := s) h]
      unfold lenS
      rw [add64 (x := (n : Int)) (y := (s[i].size : Int)) (by omega) (by omega), add64 (x := (n : Int) + (s[i].size : Int)) (y := 1) (by omega) (by omega), next64 (by omega)]
      exact hr _ ⟨rfl, rfl, rfl, rfl, n + s[i].size + 1, i + 1, by push_cast; rfl, rfl, h, by omega, hz⟩ (by show ((1001 : Int) - ((n : Int) + (s[i].size : Int) + 1)).toNat < ((1001 : Int) - (n : Int)).toNat; omega)
    · rw [if_neg hb] at hz
      rw [if_neg hb]
      exact j2 n hz.symm
  · rw [if_neg h]
    rw [List.drop_eq_nil_of_le (by omega)] at hz
    exact j2 n hz.symm
end Go.Proofs.YtmmbedlegmbppaaDoor.R
