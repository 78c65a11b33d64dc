/- LegacyTells, told in plain words. -/
import Derived.Test.YtkjjegjafpefcaaDoorPLegLaw
import Derived.Test.YtkjjegjafpefcaaDoorRW
namespace Go.Proofs.YtkjjegjafpefcaaDoor.R
open Go Go.RowKit
set_option linter.unusedSimpArgs false
set_option linter.unusedVariables false
theorem LegacyTells (s : ByteArray) (l : List Dir) (f : List Fld) (w0 : Ty.Wf .str s) (w1 : l.length ≤ 140737488351232 ∧ ∀ x ∈ l, Ty.Wf (.agg (.pair .str (.pair .str .bool))) x) (w2 : f.length ≤ 140737488351232 ∧ ∀ x ∈ f, Ty.Wf (.agg (.pair .str .str)) x) : ∃ k, law10_LegacyTells.f k (s, (l, f)) = some true := by
  refine ⟨1000010, ?_⟩
  unfold law10_LegacyTells.f
  rw [awake10, bindO_some, own_is l w1.1 (wf_dirs w1) _ (by omega), bindO_some]
  have up : law10_LegacyTells.j2 1000010 (s, (l, (f, (true, ((ownM 0 l).1, true))))) = some true := rfl
  simp only
  rw [show ltI 500 (lenS s) = decide (500 < s.size) from ltI_nat 500 _, ifO_dec]
  by_cases h1 : 500 < s.size
  · rw [if_pos h1]; exact up
  rw [if_neg h1, show ltI 1000 ((ownM 0 l).2 : Int) = decide (1000 < (ownM 0 l).2) from ltI_nat 1000 _, ifO_dec]
  by_cases h2 : 1000 < (ownM 0 l).2
  · rw [if_pos h2]; exact up
  rw [if_neg h2, size_is' f w2.1 (fits_of' w2.2) _ (by omega), bindO_some, show ltI 3000 ((szs 0 f : Nat) : Int) = decide (3000 < szs 0 f) from ltI_nat 3000 _]
  by_cases h3 : 3000 < szs 0 f
  · rw [decide_eq_true h3]; exact up
  rw [decide_eq_false h3]
  have hsum : sumF f ≤ 3000 := by have := szs_small 3000 (by decide) f 0 (by omega); omega
  obtain ⟨e1, e2⟩ := own_small l (by omega)
  have es : s.data.toList.length = s.size := by rw [Array.length_toList]; rfl
  have p1 : legacy_Parse.f 1000010 s = some (parseD s.data.toList) := (congrArg (fun q => legacy_Parse.f 1000010 q) (B_of s)).trans (legparse_is s.data.toList (by omega) _ (by omega))
  have p2 : ref10_Parse.f 1000010 s = some (parseD s.data.toList) := (congrArg (fun q => ref10_Parse.f 1000010 q) (B_of s)).trans (r10parse_is s.data.toList (by omega) _ (by omega))
  have hs := parseD_sum s.data.toList
  have hl := sumD_len (parseD s.data.toList)
  have ho := ownM_all (parseD s.data.toList) 0 (by omega)
  unfold law10_LegacyTells.j2
  simp only
  rw [ifO_false, p1, bindO_some, own_is _ (by omega) (fun d hd => by have := sumD_mem hd; omega) _ (by omega), bindO_some, ho, p2, bindO_some]
  dsimp only
  rw [r10same _ (by omega) _ (by omega), bindO_some, ifO_true, ifO_true, of_small l (by omega) _ (by omega), bindO_some, e1, r10of_small l (by omega) _ (by omega), bindO_some, eqD_refl _ rfl, ifO_true, read_is f (by omega) _ (by omega), bindO_some, r10read f (by omega) _ (by omega), bindO_some, eqD_refl _ rfl, ifO_true]
  rfl
end Go.Proofs.YtkjjegjafpefcaaDoor.R
