/- How great fields are, told in few rounds; what equals itself. -/
import Derived.Test.YtmmbedlegmbppaaDoorPFld
import Derived.Test.YtmmbedlegmbppaaDoorRW
namespace Go.Proofs.YtmmbedlegmbppaaDoor.R
open Go Go.RowKit
set_option linter.unusedSimpArgs false
set_option linter.unusedVariables false
def plainTy : Ty → Bool
  | .int _ | .bool | .str => true
  | .sl _ _ => false
  | .pair a b => plainTy a && plainTy b
  | .agg t => plainTy t
  | .err => false
theorem eqD_refl : ∀ (u : Ty), plainTy u = true → ∀ x : u.den, eqD u x x = true := by
  intro u
  induction u with
  | int k => intro _ x; exact beq_self_eq_true (α := Int) x
  | bool => intro _ x; exact beq_self_eq_true (α := Bool) x
  | str => intro _ x; exact beq_self_eq_true (α := List UInt8) _
  | sl e t _ => intro h; cases h
  | pair a b iha ihb =>
    intro h x
    simp only [plainTy, Bool.and_eq_true] at h
    show andB (eqD a x.1 x.1) (eqD b x.2 x.2) = true
    rw [iha h.1, ihb h.2]; rfl
  | agg t ih => intro h x; exact ih h x
  | err => intro h; cases h
/-- How great fields are: told in few rounds. -/
theorem size_is' (l : List Fld) (hl : l.length ≤ 140737488351232) (hf : Fits l) (k : Nat) (hk : 100010 ≤ k) : ref06_Size.f k l = some ((szs 0 l : Nat) : Int) := by
  unfold ref06_Size.f ref06_Size.l0
  have H := iter_eq (f := ref06_Size.l0b k) (fun v => v.1 = l ∧ ∃ n i : Nat, v.2.1 = (n : Int) ∧ v.2.2 = (i : Int) ∧ i ≤ l.length ∧ n ≤ 300000000000000) (fun v => (100001 - v.2.1).toNat) (fun v => some ((szs v.2.1.toNat (l.drop v.2.2.toNat) : Nat) : Int)) ?_ k (l, ((0 : Int), (0 : Int))) ⟨rfl, 0, 0, rfl, rfl, Nat.zero_le _, by omega⟩ (by show ((100001 : Int) - 0).toNat < k; omega)
  · exact H
  · rintro r ⟨s, n', i'⟩ ⟨h1, n, i, h2, h3, hi, hn⟩ hr
    simp only at h1 h2 h3
    subst h1; subst h2; subst h3
    unfold ref06_Size.l0b ref06_Size.j1
    simp only [lenL_nat, ltI_nat, inB_nat, ifO_dec, Int.toNat_natCast]
    by_cases h : i < s.length
    · rw [if_pos h, List.drop_eq_getElem_cons h]
      unfold szs
      rw [show ltI (n : Int) 100000 = decide (n < 100000) from ltI_nat n 100000, ifO_dec]
      by_cases hb : n < 100000
      · obtain ⟨b1, b2⟩ := hf s[i] (List.getElem_mem h)
        rw [if_pos hb, if_pos hb, if_pos h, if_pos h, elT_get (t := .agg (.pair .str .str)) (xs := s) h]
        unfold lenS
        rw [add64 (x := (n : Int)) (y := (s[i].1.size : Int)) (by omega) (by omega), add64 (x := (n : Int) + (s[i].1.size : Int)) (y := (s[i].2.size : Int)) (by omega) (by omega), add64 (x := (n : Int) + (s[i].1.size : Int) + (s[i].2.size : Int)) (y := 4) (by omega) (by omega), next64 (by omega)]
        rw [hr _ ⟨rfl, n + s[i].1.size + s[i].2.size + 4, i + 1, by push_cast; rfl, rfl, h, by omega⟩ (by show ((100001 : Int) - ((n : Int) + (s[i].1.size : Int) + (s[i].2.size : Int) + 4)).toNat < ((100001 : Int) - (n : Int)).toNat; omega)]
        simp only [Int.toNat_natCast]
        congr 3
      · rw [if_neg hb, if_neg hb]
    · rw [if_neg h, List.drop_eq_nil_of_le (by omega)]
      rfl
theorem fits_of' {l : List Fld} (h : ∀ x ∈ l, Ty.Wf (.agg (.pair .str .str)) x) : Fits l := fun f hf => h f hf
end Go.Proofs.YtmmbedlegmbppaaDoor.R
