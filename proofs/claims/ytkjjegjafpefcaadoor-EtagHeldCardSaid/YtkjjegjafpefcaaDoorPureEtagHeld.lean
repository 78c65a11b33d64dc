/- EtagHeld: of its own tag, and of its own date, or a later one, a response is held; of an earlier one it is not; a tag that is told goes ahead of dates. -/
import Derived.Test.YtkjjegjafpefcaaDoorPTag3
import Derived.Test.YtkjjegjafpefcaaDoorPDateR
import Derived.Test.YtkjjegjafpefcaaDoorPSize
namespace Go.Proofs.YtkjjegjafpefcaaDoor.R
open Go Go.RowKit
open Go.Proofs.YtkjjegjafpefcaaDoor.Pure (found F1 Vd sec)
set_option linter.unusedSimpArgs false
set_option linter.unusedVariables false
abbrev inmB : Bs := [105, 102, 45, 110, 111, 110, 101, 45, 109, 97, 116, 99, 104]
abbrev imsB : Bs := [105, 102, 45, 109, 111, 100, 105, 102, 105, 101, 100, 45, 115, 105, 110, 99, 101]
abbrev lmB : Bs := [108, 97, 115, 116, 45, 109, 111, 100, 105, 102, 105, 101, 100]
abbrev etB : Bs := [101, 116, 97, 103]
theorem vals_cons (nm : ByteArray) (f : Fld) (l : List Fld) : XG.vals nm (f :: l) = if (f.1.toList == nm.toList) = true then f.2 :: XG.vals nm l else XG.vals nm l := by
  unfold XG.vals
  rw [List.filter_cons]
  split <;> rfl
theorem vals_B (a b : Bs) (v : ByteArray) (l : List Fld) : XG.vals (B b) ((B a, v) :: l) = if a = b then v :: XG.vals (B b) l else XG.vals (B b) l := by
  rw [vals_cons]
  dsimp only
  rw [B_toList, B_toList]
  by_cases h : a = b
  · rw [if_pos h, if_pos (by rw [h]; exact beq_self_eq_true b)]
  · rw [if_neg h, if_neg (by simpa using h)]
theorem getV_one (nm : ByteArray) (l : List Fld) (s : Bs) (h : XG.vals nm l = [B s]) : getV nm l = s := by
  unfold getV
  rw [h, List.map_singleton, B_data, Lib.join_one]
theorem trB_pT (t : Bool × Bs) : trB (pT t) = pT t := by
  have e : ∀ p : Bs, (pT t).reverse = 34 :: (pT t).reverse.drop 1 := by
    intro _
    unfold pT
    rw [List.reverse_append, List.reverse_cons, List.reverse_append]
    rfl
  unfold trB
  rw [e [], List.dropWhile_cons, show blB 34 = false from rfl, if_neg (by decide), ← e [], List.reverse_reverse]
  unfold pT
  cases t.1 <;> rfl
theorem listV_pT (t : Bool × Bs) (h : t.2.all inT = true) : listV (pT t) = ([toT t], false, 0) := by
  unfold listV
  have hne : ¬ pT t = [42] := by
    unfold pT
    cases t.1
    · intro e; exact absurd (List.cons.inj e).1 (by decide)
    · intro e; exact absurd (List.cons.inj e).1 (by decide)
  have h1 := pT_head t []
  rw [List.append_nil] at h1
  have h2 := tagM_of t h []
  rw [List.append_nil] at h2
  rw [trB_pT, if_neg hne]
  have hp : ∃ n, (pT t).length = n + 1 := ⟨(pT t).length - 1, by unfold pT; cases t.1 <;> simp⟩
  obtain ⟨n, hn⟩ := hp
  rw [hn]
  simp only [listM]
  rw [h1, if_neg (by unfold pT; cases t.1 <;> simp), h2]
  rfl
theorem parsT_pT (t : Bool × Bs) (h : t.2.all inT = true) : parsT (pT t) = (toT t, 0) := by
  unfold parsT
  have h2 := tagM_of t h []
  rw [List.append_nil] at h2
  rw [h2]
  rfl
theorem dateV_F1 (y m d h mi s : Nat) (v : Vd y m d h mi s) : dateV (F1 y m d h mi s) = (sec y m d h mi s, 0) := by
  unfold dateV
  rw [dparse_print y m d h mi s v]
/-- What a response of a tag and a date holds. -/
abbrev respL (s a : Bs) : List Fld := [(B etB, B s), (B lmB, B a)]
theorem vals_et (s a : Bs) : XG.vals (B etB) (respL s a) = [B s] := by rw [vals_B, vals_B, if_pos rfl, if_neg (by decide)]; rfl
theorem vals_lm (s a : Bs) : XG.vals (B lmB) (respL s a) = [B a] := by rw [vals_B, vals_B, if_neg (by decide), if_pos rfl]; rfl
theorem sum_B (a b : Bs) (l : List Fld) : sumF ((B a, B b) :: l) = a.length + b.length + 4 + sumF l := by
  show (B a).size + (B b).size + 4 + sumF l = _
  rw [B_size, B_size]
theorem eqS_B (a b : Bs) : eqS (B a) (B b) = decide (a = b) := B_eq a b
theorem with0 (nm v : ByteArray) (k : Nat) : head_With.f k (([] : List Fld), (nm, v)) = some [(nm, v)] := with_is [] nm v (by simp) k
theorem awake12' : law12_awake.f 200000000000000 () = some true := by decide +kernel
theorem inmIms : ¬ inmB = imsB := by decide
theorem held_core (t : Bool × Bs) (ht : t.2.all inT = true) (hl : (pT t).length ≤ 200) (y m d h mi s y' m' d' h' mi' s' : Nat) (v : Vd y m d h mi s) (v' : Vd y' m' d' h' mi' s') :
    law12_EtagHeld.j4 200000000000000 (true, (B (pT t), (B (F1 y m d h mi s), (B (F1 y' m' d' h' mi' s'), (false, (t.1, (B t.2, (sec y m d h mi s, sec y' m' d' h' mi' s')))))))) = some true := by
  have hx : t.2.length ≤ 200 := by
    have : (pT t).length = (if t.1 = true then 2 else 0) + (t.2.length + 2) := by unfold pT; cases t.1 <;> simp <;> omega
    omega
  have l1 := F1_len y m d h mi s v
  have l2 := F1_len y' m' d' h' mi' s' v'
  have hs : sumF (respL (pT t) (F1 y m d h mi s)) ≤ 1000 := by
    unfold respL
    rw [sum_B, sum_B]
    show _ + (_ + 0) ≤ _
    simp only [List.length_cons, List.length_nil]
    omega
  have H : ∀ q : List Fld, sumF q ≤ 1000 → etag_Held.f 200000000000000 (q, respL (pT t) (F1 y m d h mi s)) = some (heldV q (respL (pT t) (F1 y m d h mi s))) := fun q hq => held_is q _ (by omega) (by omega) _ (by decide)
  have pe : parsT (getV (B etB) (respL (pT t) (F1 y m d h mi s))) = (toT t, 0) := by rw [getV_one _ _ _ (vals_et _ _), parsT_pT t ht]
  have dl : dateV (getV (B lmB) (respL (pT t) (F1 y m d h mi s))) = (sec y m d h mi s, 0) := by rw [getV_one _ _ _ (vals_lm _ _), dateV_F1 _ _ _ _ _ _ v]
  have vl : decide (0 < (XG.vals (B lmB) (respL (pT t) (F1 y m d h mi s))).length) = true := by rw [vals_lm]; rfl
  -- of its own tag
  have a1 : heldV [(B inmB, B (pT t))] (respL (pT t) (F1 y m d h mi s)) = true := by
    have e1 : XG.vals (B inmB) [(B inmB, B (pT t))] = [B (pT t)] := by rw [vals_B, if_pos rfl]; rfl
    unfold heldV
    rw [e1, getV_one _ _ _ e1, pe, listV_pT t ht]
    show (false || anyL 0 [toT t] (toT t).2) = true
    unfold anyL
    simp [eqS_self]
  -- by a date
  have a2 : heldV [(B imsB, B (F1 y' m' d' h' mi' s'))] (respL (pT t) (F1 y m d h mi s)) = leI (sec y m d h mi s) (sec y' m' d' h' mi' s') := by
    have e0 : XG.vals (B inmB) [(B imsB, B (F1 y' m' d' h' mi' s'))] = [] := by rw [vals_B, if_neg (by decide)]; rfl
    have e1 : XG.vals (B imsB) [(B imsB, B (F1 y' m' d' h' mi' s'))] = [B (F1 y' m' d' h' mi' s')] := by rw [vals_B, if_pos rfl]; rfl
    unfold heldV
    rw [e0, e1, vl, dl, getV_one _ _ _ e1, dateV_F1 _ _ _ _ _ _ v']
    rfl
  -- another tag goes ahead
  have hx2 : (t.2 ++ [120]).all inT = true := by rw [List.all_append, ht]; rfl
  have a3 : heldV [(B inmB, B (pT (false, t.2 ++ [120]))), (B imsB, B (F1 y m d h mi s))] (respL (pT t) (F1 y m d h mi s)) = false := by
    have e1 : XG.vals (B inmB) [(B inmB, B (pT (false, t.2 ++ [120]))), (B imsB, B (F1 y m d h mi s))] = [B (pT (false, t.2 ++ [120]))] := by rw [vals_B, if_pos rfl, vals_B, if_neg (by decide)]; rfl
    unfold heldV
    rw [e1, getV_one _ _ _ e1, pe, listV_pT (false, t.2 ++ [120]) hx2]
    show (false || anyL 0 [toT (false, t.2 ++ [120])] (toT t).2) = false
    unfold anyL toT
    dsimp only
    rw [List.any_cons, List.any_nil, eqS_B, decide_eq_false (show ¬ t.2 ++ [120] = t.2 from fun e => by have := congrArg List.length e; simp at this)]
    rfl
  have a4 : heldV [] (respL (pT t) (F1 y m d h mi s)) = false := by
    unfold heldV
    rfl
  unfold law12_EtagHeld.j4
  dsimp only
  rw [ifO_false]
  rw [show (⟨#[105, 102, 45, 110, 111, 110, 101, 45, 109, 97, 116, 99, 104]⟩ : ByteArray) = B inmB from rfl, show (⟨#[105, 102, 45, 109, 111, 100, 105, 102, 105, 101, 100, 45, 115, 105, 110, 99, 101]⟩ : ByteArray) = B imsB from rfl, show (⟨#[108, 97, 115, 116, 45, 109, 111, 100, 105, 102, 105, 101, 100]⟩ : ByteArray) = B lmB from rfl, show (⟨#[101, 116, 97, 103]⟩ : ByteArray) = B etB from rfl, show (⟨#[34]⟩ : ByteArray) = B [34] from rfl, show (⟨#[120, 34]⟩ : ByteArray) = B [120, 34] from rfl]
  have q1 : etag_Held.f 200000000000000 ([(B inmB, B (pT t))], respL (pT t) (F1 y m d h mi s)) = some true := by
    rw [H _ (by rw [sum_B]; show _ + 0 ≤ _; simp only [List.length_cons, List.length_nil]; omega), a1]
  have q2 : etag_Held.f 200000000000000 ([(B imsB, B (F1 y' m' d' h' mi' s'))], respL (pT t) (F1 y m d h mi s)) = some (leI (sec y m d h mi s) (sec y' m' d' h' mi' s')) := by
    rw [H _ (by rw [sum_B]; show _ + 0 ≤ _; simp only [List.length_cons, List.length_nil]; omega), a2]
  have q3 : etag_Held.f 200000000000000 ([(B inmB, B (pT (false, t.2 ++ [120]))), (B imsB, B (F1 y m d h mi s))], respL (pT t) (F1 y m d h mi s)) = some false := by
    have hl3 : (pT (false, t.2 ++ [120])).length = t.2.length + 3 := by unfold pT; simp
    rw [H _ (by rw [sum_B, sum_B, hl3]; show _ + (_ + 0) ≤ _; simp only [List.length_cons, List.length_nil]; omega), a3]
  have q4 : etag_Held.f 200000000000000 (([] : List Fld), respL (pT t) (F1 y m d h mi s)) = some false := by
    rw [H _ (by show 0 ≤ _; omega), a4]
  refine (congrArg (fun z => bindO z _) q1).trans ?_
  rw [bindO_some]
  refine (congrArg (fun z => bindO z _) q2).trans ?_
  rw [bindO_some]
  rw [B_fits, decide_eq_true (by simp only [List.length_cons, List.length_nil]; omega), ifO_true, B_cat, B_fits, decide_eq_true (by simp only [List.length_append, List.length_cons, List.length_nil]; omega), ifO_true, B_cat]
  rw [show [34] ++ t.2 ++ [120, 34] = pT (false, t.2 ++ [120]) by unfold pT; simp, with0, bindO_some, with_is [_] _ _ (by simp), bindO_some]
  rw [show (([(B inmB, B (pT (false, t.2 ++ [120])))] : List Fld) ++ [(B imsB, B (F1 y m d h mi s))]) = [(B inmB, B (pT (false, t.2 ++ [120]))), (B imsB, B (F1 y m d h mi s))] from rfl]
  refine (congrArg (fun z => bindO z _) q3).trans ?_
  rw [bindO_some, ifO_true, ifO_true, eqB_self, ifO_true, show notB false = true from rfl, ifO_true]
  refine (congrArg (fun z => bindO z _) q4).trans ?_
  rfl
theorem EtagHeld (t : TagB) (n : Int × Int) (w0 : Ty.Wf (.agg (.pair .bool .str)) t) (w1 : Ty.Wf (.agg (.pair (.int .i64) (.int .i64))) n) : ∃ k, law12_EtagHeld.f k (t, n) = some true := by
  refine ⟨200000000000000, ?_⟩
  obtain ⟨n0, n1⟩ := n
  obtain ⟨wk, tx⟩ := t
  obtain ⟨x, rfl⟩ : ∃ x, tx = B x := ⟨_, B_of tx⟩
  have hx : x.length ≤ 140737488351232 := by
    have h2 : (B x).size ≤ 140737488351232 := w0.2
    rwa [B_size] at h2
  have out : ∀ s a b v, law12_EtagHeld.j4 200000000000000 (true, (s, (a, (b, (true, v))))) = some true := fun _ _ _ _ => rfl
  have pr := print_tag (wk, x) (by dsimp only; omega) 200000000000000 (by dsimp only; omega)
  dsimp only at pr
  unfold law12_EtagHeld.f
  dsimp only
  rw [awake12', bindO_some, pr, bindO_some]
  have dn : ∀ n : Int, (∃ a, date_Print.f 200000000000000 n = some (a, 6)) ∨ ∃ y m d h mi s, Vd y m d h mi s ∧ n = sec y m d h mi s := by
    intro n
    by_cases hn : n < 0 ∨ 253402300800 ≤ n
    · exact .inl ⟨_, dprint_no n hn _⟩
    · exact .inr (sec_ex n (by omega) (by omega))
  by_cases hin : x.all inT = true
  · rw [if_pos hin]
    rcases dn n0 with ⟨a, e0⟩ | ⟨y, m, d, h, mi, s, v, rfl⟩
    · rw [e0, bindO_some]
      rcases dn n1 with ⟨b, e1⟩ | ⟨y', m', d', h', mi', s', v', rfl⟩
      · rw [e1, bindO_some]; exact out _ _ _ _
      · rw [dprint _ _ _ _ _ _ v' _ (by decide), bindO_some]; exact out _ _ _ _
    · rw [dprint _ _ _ _ _ _ v _ (by decide), bindO_some]
      rcases dn n1 with ⟨b, e1⟩ | ⟨y', m', d', h', mi', s', v', rfl⟩
      · rw [e1, bindO_some]; exact out _ _ _ _
      · rw [dprint _ _ _ _ _ _ v' _ (by decide), bindO_some]
        dsimp only
        rw [show neI 0 0 = false from rfl, ifO_false, ifO_false, ifO_false, B_len, show ltI 200 ((pT (wk, x)).length : Int) = decide (200 < (pT (wk, x)).length) from ltI_nat 200 _]
        by_cases hl : 200 < (pT (wk, x)).length
        · rw [decide_eq_true hl]; exact out _ _ _ _
        · rw [decide_eq_false hl]
          exact held_core (wk, x) hin (by omega) _ _ _ _ _ _ _ _ _ _ _ _ v v'
  · rw [if_neg hin]
    have : ∀ n : Int, ∃ r, date_Print.f 200000000000000 n = some r := by
      intro n
      rcases dn n with ⟨a, e⟩ | ⟨y, m, d, h, mi, s, v, rfl⟩
      · exact ⟨_, e⟩
      · exact ⟨_, dprint _ _ _ _ _ _ v _ (by decide)⟩
    obtain ⟨r0, e0⟩ := this n0
    obtain ⟨r1, e1⟩ := this n1
    rw [e0, bindO_some, e1, bindO_some]
    exact out _ _ _ _
end Go.Proofs.YtkjjegjafpefcaaDoor.R
