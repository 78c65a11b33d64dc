/- What the laws of directives lean on. -/
import Derived.Test.YtkjjegjafpefcaaDoorPLegOf
import Derived.Test.YtkjjegjafpefcaaDoorRW
namespace Go.Proofs.YtkjjegjafpefcaaDoor.R
open Go Go.RowKit
set_option linter.unusedSimpArgs false
set_option linter.unusedVariables false
def plainTy : Ty → Bool
  | .int _ | .bool | .str => true
  | .sl _ _ => false
  | .pair a b => plainTy a && plainTy b
  | .agg t => plainTy t
theorem eqD_refl : ∀ (u : Ty), plainTy u = true → ∀ x : u.den, eqD u x x = true := by
  intro u
  induction u with
  | int k => intro _ x; exact beq_self_eq_true (α := Int) x
  | bool => intro _ x; exact beq_self_eq_true (α := Bool) x
  | str => intro _ x; exact beq_self_eq_true (α := List UInt8) _
  | sl e t _ => intro h; cases h
  | pair a b iha ihb =>
    intro h x
    simp only [plainTy, Bool.and_eq_true] at h
    show andB (eqD a x.1 x.1) (eqD b x.2 x.2) = true
    rw [iha h.1, ihb h.2]; rfl
  | agg t ih => intro h x; exact ih h x
/-- How great fields are: told in few rounds. -/
theorem size_is' (l : List Fld) (hl : l.length ≤ 140737488351232) (hf : Fits l) (k : Nat) (hk : 100010 ≤ k) : ref06_Size.f k l = some ((szs 0 l : Nat) : Int) := by
  unfold ref06_Size.f ref06_Size.l0
  have H := iter_eq (f := ref06_Size.l0b k) (fun v => v.1 = l ∧ ∃ n i : Nat, v.2.1 = (n : Int) ∧ v.2.2 = (i : Int) ∧ i ≤ l.length ∧ n ≤ 300000000000000) (fun v => (100001 - v.2.1).toNat) (fun v => some ((szs v.2.1.toNat (l.drop v.2.2.toNat) : Nat) : Int)) ?_ k (l, ((0 : Int), (0 : Int))) ⟨rfl, 0, 0, rfl, rfl, Nat.zero_le _, by omega⟩ (by show ((100001 : Int) - 0).toNat < k; omega)
  · exact H
  · rintro r ⟨s, n', i'⟩ ⟨h1, n, i, h2, h3, hi, hn⟩ hr
    simp only at h1 h2 h3
    subst h1; subst h2; subst h3
    unfold ref06_Size.l0b ref06_Size.j1
    simp only [lenL_nat, ltI_nat, inB_nat, ifO_dec, Int.toNat_natCast]
    by_cases h : i < s.length
    · rw [if_pos h, List.drop_eq_getElem_cons h]
      unfold szs
      rw [show ltI (n : Int) 100000 = decide (n < 100000) from ltI_nat n 100000, ifO_dec]
      by_cases hb : n < 100000
      · obtain ⟨b1, b2⟩ := hf s[i] (List.getElem_mem h)
        rw [if_pos hb, if_pos hb, if_pos h, if_pos h, elT_get (t := .agg (.pair .str .str)) (xs := s) h]
        unfold lenS
        rw [add64 (x := (n : Int)) (y := (s[i].1.size : Int)) (by omega) (by omega), add64 (x := (n : Int) + (s[i].1.size : Int)) (y := (s[i].2.size : Int)) (by omega) (by omega), add64 (x := (n : Int) + (s[i].1.size : Int) + (s[i].2.size : Int)) (y := 4) (by omega) (by omega), next64 (by omega)]
        rw [hr _ ⟨rfl, n + s[i].1.size + s[i].2.size + 4, i + 1, by push_cast; rfl, rfl, h, by omega⟩ (by show ((100001 : Int) - ((n : Int) + (s[i].1.size : Int) + (s[i].2.size : Int) + 4)).toNat < ((100001 : Int) - (n : Int)).toNat; omega)]
        simp only [Int.toNat_natCast]
        congr 3
      · rw [if_neg hb, if_neg hb]
    · rw [if_neg h, List.drop_eq_nil_of_le (by omega)]
      rfl
def ownM : Nat → List Dir → List Dir × Nat
  | n, [] => ([], n)
  | n, d :: r => if n < 10000 then (d :: (ownM (n + (d.1.size + d.2.1.size + 1)) r).1, (ownM (n + (d.1.size + d.2.1.size + 1)) r).2) else ([], n)
theorem ownM_cons (n : Nat) (d : Dir) (r : List Dir) : ownM n (d :: r) = if n < 10000 then (d :: (ownM (n + (d.1.size + d.2.1.size + 1)) r).1, (ownM (n + (d.1.size + d.2.1.size + 1)) r).2) else ([], n) := rfl
theorem ownM_small : ∀ (l : List Dir) (n : Nat), (ownM n l).2 < 10000 → (ownM n l).1 = l ∧ n + sumD l ≤ (ownM n l).2
  | [], n, h => ⟨rfl, Nat.le_refl _⟩
  | d :: r, n, h => by
    unfold ownM at h ⊢
    by_cases hn : n < 10000
    · rw [if_pos hn] at h ⊢
      obtain ⟨h1, h2⟩ := ownM_small r _ h
      exact ⟨by rw [h1], by simp only [sumD]; omega⟩
    · rw [if_neg hn] at h; exact absurd h hn
theorem ownM_all : ∀ (l : List Dir) (n : Nat), n + sumD l < 10000 → ownM n l = (l, n + sumD l)
  | [], n, h => rfl
  | d :: r, n, h => by
    simp only [sumD] at h
    unfold ownM
    rw [if_pos (by omega), ownM_all r _ (by omega)]
    simp only [sumD]
    congr 1
    omega
theorem own_is (l : List Dir) (hl : l.length ≤ 140737488351232) (hf : ∀ d ∈ l, d.1.size ≤ 140737488351232 ∧ d.2.1.size ≤ 140737488351232) (k : Nat) (hk : 100010 ≤ k) : law10_own.f k l = some ((ownM 0 l).1, ((ownM 0 l).2 : Int)) := by
  unfold law10_own.f law10_own.l0
  refine iter_eq (f := law10_own.l0b k) (fun v => v.1 = l ∧ ∃ n i : Nat, v.2.2.1 = (n : Int) ∧ v.2.2.2 = (i : Int) ∧ i ≤ l.length ∧ n ≤ 300000000000000 ∧ v.2.1.length ≤ n ∧ v.2.1 ++ (ownM n (l.drop i)).1 = (ownM 0 l).1 ∧ (ownM n (l.drop i)).2 = (ownM 0 l).2) (fun v => (10001 - v.2.2.1).toNat) (fun v => some ((ownM 0 l).1, ((ownM 0 l).2 : Int))) ?_ k _ ⟨rfl, 0, 0, rfl, rfl, Nat.zero_le _, by omega, Nat.zero_le _, rfl, rfl⟩ (by show ((10001 : Int) - 0).toNat < k; omega)
  rintro r ⟨s, out, n', i'⟩ ⟨h1, n, i, h2, h3, hi, hn, ho, h4, h5⟩ hr
  simp only at h1 h2 h3 ho h4
  subst h1; subst h2; subst h3
  unfold law10_own.l0b law10_own.j1
  simp only [lenL_nat, ltI_nat, inB_nat, ifO_dec]
  by_cases h : i < s.length
  · rw [List.drop_eq_getElem_cons h, ownM_cons] at h4 h5
    rw [if_pos h, show ltI (n : Int) 10000 = decide (n < 10000) from ltI_nat n 10000, ifO_dec]
    by_cases hb : n < 10000
    · obtain ⟨b1, b2⟩ := hf s[i] (List.getElem_mem h)
      rw [if_pos hb] at h4 h5
      rw [if_pos hb, if_pos h, elT_get (t := .agg (.pair .str (.pair .str .bool))) (xs := s) h, if_pos h, if_pos h]
      rw [show ∀ x : Dir, (([(x.1, (x.2.1, x.2.2))] : List Dir).length : Int) = ((1 : Nat) : Int) from fun _ => rfl, fitsL_yes (by omega) (by omega), ifO_true]
      unfold lenS
      rw [add64 (x := (n : Int)) (y := (s[i].1.size : Int)) (by omega) (by omega), add64 (x := (n : Int) + (s[i].1.size : Int)) (y := (s[i].2.1.size : Int)) (by omega) (by omega), add64 (x := (n : Int) + (s[i].1.size : Int) + (s[i].2.1.size : Int)) (y := 1) (by omega) (by omega), next64 (by omega)]
      refine hr _ ⟨rfl, n + (s[i].1.size + s[i].2.1.size + 1), i + 1, by show (n : Int) + (s[i].1.size : Int) + (s[i].2.1.size : Int) + 1 = ((n + (s[i].1.size + s[i].2.1.size + 1) : Nat) : Int); omega, rfl, h, by omega, ?_, ?_, h5⟩ (by show ((10001 : Int) - ((n : Int) + (s[i].1.size : Int) + (s[i].2.1.size : Int) + 1)).toNat < ((10001 : Int) - (n : Int)).toNat; omega)
      · show (out ++ [s[i]]).length ≤ _
        rw [List.length_append]; show out.length + 1 ≤ _; omega
      · show (out ++ [s[i]]) ++ _ = _
        rw [← h4]; simp
    · rw [if_neg hb] at h4 h5
      rw [if_neg hb, ← h4, ← h5]
      simp
  · rw [List.drop_eq_nil_of_le (by omega)] at h4 h5
    rw [if_neg h, ← h4, ← h5]
    simp [ownM]
theorem r10same (l : List Dir) (hl : l.length ≤ 900000) (k : Nat) (hk : 1000000 ≤ k) : ref10_Same.f k (l, l) = some true := by
  unfold ref10_Same.f ref10_Same.l0
  rw [neI_dec, ifO_dec, if_neg (fun h => h rfl)]
  refine iter_eq (f := ref10_Same.l0b k) (fun v => v.1 = l ∧ v.2.1 = l ∧ ∃ i : Nat, v.2.2 = (i : Int) ∧ i ≤ l.length) (fun v => (l.length + 1 - v.2.2).toNat) (fun v => some true) ?_ k _ ⟨rfl, rfl, 0, rfl, Nat.zero_le _⟩ (by show ((l.length : Int) + 1 - 0).toNat < k; omega)
  rintro r ⟨s, t, i'⟩ ⟨h1, h2, i, h3, hi⟩ hr
  simp only at h1 h2 h3
  subst h1; subst h2; subst h3
  unfold ref10_Same.l0b
  simp only [lenL_nat, ltI_nat, inB_nat, ifO_dec]
  by_cases h : i < t.length
  · rw [if_pos h, if_pos h, if_pos h, eqD_refl _ rfl, show notB true = false from rfl, ifO_false, next64 (by omega)]
    exact hr _ ⟨rfl, rfl, i + 1, rfl, h⟩ (by show ((t.length : Int) + 1 - ((i + 1 : Nat) : Int)).toNat < ((t.length : Int) + 1 - (i : Int)).toNat; omega)
  · rw [if_neg h]
theorem awake10 : law10_awake.f 1000010 () = some true := by decide +kernel
theorem sumD_len : ∀ l : List Dir, l.length ≤ sumD l
  | [] => Nat.le_refl _
  | d :: r => by have := sumD_len r; simp only [sumD, List.length_cons]; omega
theorem sumD_mem {l : List Dir} {d : Dir} (h : d ∈ l) : d.1.size + d.2.1.size ≤ sumD l := by
  induction l with
  | nil => cases h
  | cons x l ih =>
    rcases List.mem_cons.1 h with rfl | h
    · simp only [sumD]; omega
    · have := ih h; simp only [sumD]; omega
/-- What directives of no great length tell. -/
theorem of_small (l : List Dir) (h : sumD l ≤ 200000) (k : Nat) (hk : 1000000 ≤ k) : legacy_Of.f k l = some (ofM l) := of_is l (by have := sumD_len l; omega) (fun d hd => by have := sumD_mem hd; omega) k hk
theorem r10of_small (l : List Dir) (h : sumD l ≤ 200000) (k : Nat) (hk : 1000000 ≤ k) : ref10_Of.f k l = some (ofM l) := r10of l (by have := sumD_len l; omega) (fun d hd => by have := sumD_mem hd; omega) k hk
theorem own_small (l : List Dir) (h : (ownM 0 l).2 ≤ 1000) : (ownM 0 l).1 = l ∧ sumD l ≤ 1000 := by
  obtain ⟨h1, h2⟩ := ownM_small l 0 (by omega)
  exact ⟨h1, by omega⟩
/-- The rules of fields. -/
def readV (l : List Fld) : R13 := ofM (parseD (getV (⟨#[99, 97, 99, 104, 101, 45, 99, 111, 110, 116, 114, 111, 108]⟩ : ByteArray) l))
theorem parseD_nil : parseD [] = [] := by
  unfold parseD
  rw [C_end [] 0 0 [] (Nat.le_refl _), B_extract, takeP_B]
  rfl
theorem vals_nil_get {nm : ByteArray} {l : List Fld} (h : ¬ 0 < (XG.vals nm l).length) : getV nm l = [] := by
  have : XG.vals nm l = [] := List.eq_nil_of_length_eq_zero (by omega)
  unfold getV
  rw [this]; rfl
theorem read_is (l : List Fld) (h : sumF l ≤ 99000) (k : Nat) (hk : 1000010 ≤ k) : legacy_Read.f k l = some (readV l) := by
  have hg := getV_len (⟨#[99, 97, 99, 104, 101, 45, 99, 111, 110, 116, 114, 111, 108]⟩ : ByteArray) l
  unfold legacy_Read.f readV
  rw [get_is _ _ (by omega), bindO_some]
  by_cases hv : 0 < (XG.vals (⟨#[99, 97, 99, 104, 101, 45, 99, 111, 110, 116, 114, 111, 108]⟩ : ByteArray) l).length
  · have hs := parseD_sum (getV (⟨#[99, 97, 99, 104, 101, 45, 99, 111, 110, 116, 114, 111, 108]⟩ : ByteArray) l)
    rw [decide_eq_true hv, show notB true = false from rfl, ifO_false, legparse_is _ (by omega) k hk, bindO_some, of_small _ (by omega) k (by omega), bindO_some]
  · rw [decide_eq_false hv, show notB false = true from rfl, ifO_true, vals_nil_get hv, parseD_nil]
    rfl
theorem r10read (l : List Fld) (h : sumF l ≤ 99000) (k : Nat) (hk : 1000010 ≤ k) : ref10_Read.f k l = some (readV l) := by
  have hg := getV_len (⟨#[99, 97, 99, 104, 101, 45, 99, 111, 110, 116, 114, 111, 108]⟩ : ByteArray) l
  have hs := parseD_sum (getV (⟨#[99, 97, 99, 104, 101, 45, 99, 111, 110, 116, 114, 111, 108]⟩ : ByteArray) l)
  unfold ref10_Read.f readV
  rw [r6get _ _ (by omega) k (by omega), bindO_some, r10parse_is _ (by omega) k hk, bindO_some, r10of_small _ (by omega) k (by omega), bindO_some]
abbrev WfDs (l : List Dir) : Prop := l.length ≤ 140737488351232 ∧ ∀ x ∈ l, Ty.Wf (.agg (.pair .str (.pair .str .bool))) x
theorem wf_dirs {l : List Dir} (h : WfDs l) : ∀ d ∈ l, d.1.size ≤ 140737488351232 ∧ d.2.1.size ≤ 140737488351232 := fun d hd => ⟨(h.2 d hd).1, (h.2 d hd).2.1⟩
theorem fits_of' {l : List Fld} (h : ∀ x ∈ l, Ty.Wf (.agg (.pair .str .str)) x) : Fits l := fun f hf => h f hf
end Go.Proofs.YtkjjegjafpefcaaDoor.R
