/- HopsMeet, told in plain words. -/
import Derived.Test.YtkjjegjafpefcaaDoorPHopQ
namespace Go.Proofs.YtkjjegjafpefcaaDoor.R
open Go Go.RowKit
set_option linter.unusedSimpArgs false
set_option linter.unusedVariables false
theorem vals_appV (id : ByteArray) (l : List Fld) : XG.vals cdn (appV id l) = [appT id l] := by
  unfold appV
  rw [vals_app, vals_left, vals_own]; rfl
theorem getV_appV (id : ByteArray) (l : List Fld) : getV cdn (appV id l) = (appT id l).data.toList := by
  unfold getV
  rw [vals_appV]
  exact Lib.join_one _ _
theorem sumF_appV (id : ByteArray) (l : List Fld) : sumF (appV id l) ≤ 2 * sumF l + id.size + 20 := by
  have h1 := sumF_left [cdn] l
  have h2 := getV_len cdn l
  have h3 := len_data id
  unfold appV
  rw [sumF_snoc]
  have e : (appT id l).size ≤ (getV cdn l).length + 2 + id.size := by
    unfold appT
    split
    · omega
    · rw [B_size]; simp only [List.length_append, List.length_cons, List.length_nil]; omega
  have : (cdn : ByteArray).size = 8 := rfl
  show sumF (XW.left [cdn] l) + (cdn.size + (appT id l).size + 4) ≤ _
  omega
/-- What is behind such a text when one more was appended. -/
theorem parts_appT (id : ByteArray) (l : List Fld) (hid : idM id.data.toList = true) (hs : scanQ (getV cdn l) 0 = true) :
    C (appT id l).data.toList 0 0 [] = C (getV cdn l) 0 0 [] ++ [id] ∧ scanQ (appT id l).data.toList 0 = true ∧ (appT id l).data.toList ≠ [] := by
  have hg := id_good _ hid
  have hB := B_self id
  unfold appT
  by_cases h0 : getV cdn l = []
  · rw [if_pos h0, h0, C_none, C_alone _ hg, hB]
    exact ⟨rfl, scanQ_id _ hid, hg.1⟩
  · rw [if_neg h0, B_data]
    refine ⟨?_, ?_, by simp⟩
    · show C (getV cdn l ++ 44 :: 32 :: id.data.toList) 0 0 [] = _
      rw [C_more _ _ hs hg, hB]
    · rw [scanQ_app _ _ _ 0 (Nat.le_refl _) (Nat.zero_le _) hs]
      refine scanQ_plain _ _ ?_
      rw [List.drop_left' rfl]
      intro c hc
      rcases List.mem_append.1 hc with hc | hc
      · intro e; rw [e] at hc; revert hc; decide
      · exact fun e => (hg.2 c hc).2.1 (by rw [e]; rfl)
theorem loopV_app (x : Bs) (id : ByteArray) (l : List Fld) (hid : idM id.data.toList = true) (hok : (C (getV cdn l) 0 0 []).all okO = true) :
    loopV x (appV id l) = (((C (getV cdn l) 0 0 []).any fun o => decide (nmO o = lowL x)) || decide (lowL id.data.toList = lowL x), 0) := by
  obtain ⟨h1, _, _⟩ := parts_appT id l hid (all_closed _ hok)
  obtain ⟨o1, o2⟩ := okO_id _ hid
  rw [B_self] at o1 o2
  unfold loopV
  rw [vals_appV, getV_appV, h1, if_pos (by simp), if_neg (by simp), loopL_is, List.all_append, hok]
  simp only [List.all_cons, List.all_nil, o1, Bool.and_true, if_true, List.any_append, List.any_cons, List.any_nil, o2, Bool.false_or, Bool.or_false]
theorem HopsMeet (l : List Fld) (id other : ByteArray) (w0 : l.length ≤ 140737488351232 ∧ ∀ x ∈ l, Ty.Wf (.agg (.pair .str .str)) x) (w1 : Ty.Wf .str id) (w2 : Ty.Wf .str other) : ∃ k, law18_HopsMeet.f k (l, (id, other)) = some true := by
  refine ⟨1000010, ?_⟩
  unfold law18_HopsMeet.f
  have up : law18_HopsMeet.j2 1000010 (l, (id, (other, (true, true)))) = some true := rfl
  rw [awake18, bindO_some, size_is' l w0.1 (fits_of' w0.2) _ (by omega), bindO_some]
  simp only
  rw [show ltI 2000 ((szs 0 l : Nat) : Int) = decide (2000 < szs 0 l) from ltI_nat 2000 _, ifO_dec, show ltI 100 (lenS id) = decide (100 < id.size) from ltI_nat 100 _, ifO_dec, show ltI 100 (lenS other) = decide (100 < other.size) from ltI_nat 100 _, ifO_dec]
  by_cases h1 : 2000 < szs 0 l
  · rw [if_pos h1]; exact up
  rw [if_neg h1]
  by_cases h2 : 100 < id.size
  · rw [if_pos h2]; exact up
  rw [if_neg h2]
  by_cases h3 : 100 < other.size
  · rw [if_pos h3]; exact up
  rw [if_neg h3]
  have hsum : sumF l ≤ 2000 := by have := szs_small 2000 (by decide) l 0 (by omega); omega
  have s1 := len_data id
  have s2 := len_data other
  have i1 : hops_Id.f 1000010 id = some (idM id.data.toList) := (congrArg (fun q => hops_Id.f 1000010 q) (B_of id)).trans (id_is _ (by omega) _ (by omega))
  have i2 : hops_Id.f 1000010 other = some (idM other.data.toList) := (congrArg (fun q => hops_Id.f 1000010 q) (B_of other)).trans (id_is _ (by omega) _ (by omega))
  rw [i1, bindO_some]
  cases m1 : idM id.data.toList with
  | false => rw [show notB false = true from rfl, ifO_true]; exact up
  | true =>
  rw [show notB true = false from rfl, ifO_false, i2, bindO_some]
  cases m2 : idM other.data.toList with
  | false => exact up
  | true =>
  unfold law18_HopsMeet.j2
  simp only
  rw [show notB true = false from rfl, ifO_false, loop_is l (by omega) other (by omega) _ (by omega), bindO_some, get_is cdn l (by omega), bindO_some]
  -- what follows where the fields are of the right form
  have main : (C (getV cdn l) 0 0 []).all okO = true → ((loopV other.data.toList l).1 = true → ((C (getV cdn l) 0 0 []).any fun o => decide (nmO o = lowL other.data.toList)) = true) → law18_HopsMeet.j5 1000010 (l, (id, (other, (true, (loopV other.data.toList l).1)))) = some true := by
    intro hok hwas
    have q1 := sumF_appV id l
    have q2 := sumF_appV other (appV id l)
    obtain ⟨c1, c2, c3⟩ := parts_appT id l m1 (all_closed _ hok)
    obtain ⟨o1, o2⟩ := okO_id _ m1
    rw [B_self] at o1 o2
    have hok2 : (C (getV cdn (appV id l)) 0 0 []).all okO = true := by rw [getV_appV, c1, List.all_append, hok]; simp [o1]
    have e1 := loopV_app id.data.toList id l m1 hok
    have e2 := loopV_app other.data.toList id l m1 hok
    have e3 := loopV_app id.data.toList other (appV id l) m2 hok2
    have e4 : ((C (getV cdn (appV id l)) 0 0 []).any fun o => decide (nmO o = lowL id.data.toList)) = true := by
      rw [getV_appV, c1, List.any_append]
      simp [o2]
    rw [decide_eq_true rfl, Bool.or_true] at e1
    rw [e4, Bool.true_or] at e3
    unfold law18_HopsMeet.j5
    simp only
    rw [append_is l (by omega) id (by omega), bindO_some, loop_is _ (by omega) id (by omega) _ (by omega), bindO_some, loop_is _ (by omega) other (by omega) _ (by omega), bindO_some, append_is _ (by omega) other (by omega), bindO_some, loop_is _ (by omega) id (by omega) _ (by omega), bindO_some, e1, e2, e3]
    have hall : head_All.f 1000010 (appV other (appV id l), cdn) = some [appT other (appV id l)] := by
      unfold head_All.f
      have hlen := sumF_len (appV other (appV id l))
      rw [if_pos (show (appV other (appV id l)).length ≤ 100000 by omega)]
      exact congrArg some (vals_appV other (appV id l))
    simp only [ifO_true, show eqI 0 0 = true from rfl]
    cases hw : (loopV other.data.toList l).1 with
    | false =>
      rw [show notB false = true from rfl, ifO_true, hall, bindO_some]
      rfl
    | true =>
      rw [hwas hw, Bool.true_or, show notB true = false from rfl, ifO_false, ifO_true, hall, bindO_some]
      rfl
  have empty : getV cdn l = [] → law18_HopsMeet.j5 1000010 (l, (id, (other, (true, (loopV other.data.toList l).1)))) = some true := by
    intro h0
    refine main (by rw [h0, C_none]; rfl) (fun hw => ?_)
    exfalso
    unfold loopV at hw
    rw [h0, C_none] at hw
    split at hw
    · rw [if_pos rfl] at hw; cases hw
    · cases hw
  rw [show (⟨#[]⟩ : ByteArray) = B [] from rfl, B_eq, neI_dec, ifO_dec]
  by_cases he : (loopV other.data.toList l).2 = 0
  · rw [if_neg (fun h => h he)]
    by_cases h0 : getV cdn l = []
    · exact empty h0
    have hv : 0 < (XG.vals cdn l).length := by
      rcases Nat.eq_zero_or_pos (XG.vals cdn l).length with g | g
      · exact absurd (vals_nil_get (by omega)) h0
      · exact g
    have hL := he
    unfold loopV at hL
    rw [if_pos hv] at hL
    by_cases hc : C (getV cdn l) 0 0 [] = []
    · rw [if_pos hc] at hL; cases hL
    · rw [if_neg hc, loopL_is] at hL
      by_cases hok : (C (getV cdn l) 0 0 []).all okO = true
      · refine main hok (fun hw => ?_)
        unfold loopV at hw
        rw [if_pos hv, if_neg hc, loopL_is, if_pos hok] at hw
        simpa using hw
      · rw [if_neg hok] at hL; cases hL
  · rw [if_pos he]
    by_cases h0 : getV cdn l = []
    · rw [decide_eq_true h0, show notB true = false from rfl, ifO_false]
      exact empty h0
    · rw [decide_eq_false h0, show notB false = true from rfl, ifO_true]
end Go.Proofs.YtkjjegjafpefcaaDoor.R
