/- HopsTell, told in plain words. -/
import Derived.Test.YtkjjegjafpefcaaDoorPHop3
namespace Go.Proofs.YtkjjegjafpefcaaDoor.R
open Go Go.RowKit
set_option linter.unusedSimpArgs false
set_option linter.unusedVariables false
theorem HopsTell (l : List Fld) (id : ByteArray) (w0 : l.length ≤ 140737488351232 ∧ ∀ x ∈ l, Ty.Wf (.agg (.pair .str .str)) x) (w1 : Ty.Wf .str id) : ∃ k, law18_HopsTell.f k (l, id) = some true := by
  refine ⟨1000010, ?_⟩
  unfold law18_HopsTell.f
  rw [awake18, bindO_some, size_is' l w0.1 (fits_of' w0.2) _ (by omega), bindO_some]
  simp only
  rw [show ltI 2000 ((szs 0 l : Nat) : Int) = decide (2000 < szs 0 l) from ltI_nat 2000 _, ifO_dec, show ltI 100 (lenS id) = decide (100 < id.size) from ltI_nat 100 _, ifO_dec]
  by_cases h1 : 2000 < szs 0 l
  · rw [if_pos h1]
  rw [if_neg h1]
  by_cases h2 : 100 < id.size
  · rw [if_pos h2]
  rw [if_neg h2]
  have hsum : sumF l ≤ 2000 := by have := szs_small 2000 (by decide) l 0 (by omega); omega
  have hlen := sumF_len l
  have ha : (appV id l).length ≤ l.length + 1 := by unfold appV; rw [List.length_append]; have := left_len [cdn] l; simp; omega
  have he : (endsV l).length ≤ l.length := left_len _ l
  have hv : (viaV l id).length = l.length + 1 := by unfold viaV; simp
  have hs := len_data id
  have i1 : hops_Id.f 1000010 id = some (idM id.data.toList) := (congrArg (fun q => hops_Id.f 1000010 q) (B_of id)).trans (id_is _ (by omega) _ (by omega))
  have i2 : ref18_Id.f 1000010 id = some (idM id.data.toList) := (congrArg (fun q => ref18_Id.f 1000010 q) (B_of id)).trans (r18id _ (by omega) _ (by omega) (by omega))
  rw [loop_is l (by omega) id (by omega) _ (by omega), bindO_some, r18loop l (by omega) id (by omega) _ (by omega), bindO_some, append_is l (by omega) id (by omega), bindO_some, r18append l (by omega) id (by omega) _ (by omega), bindO_some, r6same (appV id l) (by omega) _ (by omega), bindO_some, ends_is l (by omega) _ (by omega), bindO_some, r18ends l (by omega) _ (by omega), bindO_some, r6same (endsV l) (by omega) _ (by omega), bindO_some, via_is l (by omega) id (by omega), bindO_some, r18via l (by omega) id (by omega), bindO_some, r6same (viaV l id) (by omega) _ (by omega), bindO_some, ifO_true]
  rw [show eqB (loopV id.data.toList l).1 (loopV id.data.toList l).1 = true from by unfold eqB; simp, ifO_true, eqI_dec, decide_eq_true rfl, ifO_true, ifO_true, ifO_true, ifO_true, i1, bindO_some, i2, bindO_some]
  unfold eqB
  simp
end Go.Proofs.YtkjjegjafpefcaaDoor.R
