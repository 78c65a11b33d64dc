/- A region's orders, with a condition on the world that holds as long as none of some operations has been carried out. -/
import Derived.Test.YtkjjegjafpefcaaDoorRS
namespace Go.Proofs.YtkjjegjafpefcaaDoor.R
open Go
set_option linter.unusedVariables false
set_option linter.unusedSimpArgs false
section
variable {P : Program} {ops : Array Oper} {Q : Exit → Act → World → Prop}
/-- Whatever order is picked from here on; and as long as none of N has been carried out since l0, T holds. -/
def wpAnyL (P : Program) (ops : Array Oper) (Q : Exit → Act → World → Prop) (S : Array Bool → World → Prop) : Nat → Array Bool → Act → World → Prop
  | 0, l, a, w => Region.ready .any ops l = [] ∧ Q .normal a w
  | f + 1, l, a, w =>
    (Region.ready .any ops l = [] → Q .normal a w) ∧
    ∀ i ∈ Region.ready .any ops l, wpOp P ops Q i (fun a' w' => S (l.setIfInBounds i true) w' ∧ wpAnyL P ops Q S f (l.setIfInBounds i true) a' w') a w
def Till (N : Nat → Bool) (l0 : Array Bool) (T : World → Prop) (l : Array Bool) (w : World) : Prop := (∀ j, N j = true → l.getD j true = l0.getD j true) → T w
theorem wpAny_of_L {S : Array Bool → World → Prop} : ∀ (f : Nat) (l : Array Bool) (a : Act) (w : World), wpAnyL P ops Q S f l a w → wpAny P .any ops Q f l a w
  | 0, _, _, _, h => h
  | f + 1, _, _, _, h => ⟨h.1, fun i hi => wpOp_mono (fun a' w' h' => wpAny_of_L f _ a' w' h'.2) (h.2 i hi)⟩
theorem wpAnyL_mono {S S' : Array Bool → World → Prop} : ∀ (f : Nat) (l : Array Bool) (a : Act) (w : World), (∀ l' w, l'.size = l.size → (∀ j, l.getD j true = true → l'.getD j true = true) → S' l' w → S l' w) → wpAnyL P ops Q S' f l a w → wpAnyL P ops Q S f l a w
  | 0, _, _, _, _, h => h
  | f + 1, l, a, w, hS, h => ⟨h.1, fun i hi => wpOp_mono (fun a' w' h' => by
      have hm : ∀ j, l.getD j true = true → (l.setIfInBounds i true).getD j true = true := by
        intro j hj
        by_cases hji : i = j
        · subst hji
          by_cases hs : i < l.size
          · simp [Array.getD, hs]
          · simp [Array.getD, hs]
        · by_cases hs : j < l.size
          · simp [Array.getD, hs, Array.getElem_setIfInBounds, hji] at hj ⊢; exact hj
          · simp [Array.getD, hs]
      exact ⟨hS _ _ (by simp) hm h'.1, wpAnyL_mono f _ a' w' (fun l' w2 h1 h2 h3 => hS l' w2 (by rw [h1]; simp) (fun j hj => h2 j (hm j hj)) h3) h'.2⟩) (h.2 i hi)⟩
theorem wpAnyL_done {S : Array Bool → World → Prop} {l : Array Bool} {a : Act} {w : World} (hr : Region.ready .any ops l = []) (h : Q .normal a w) : ∀ f, wpAnyL P ops Q S f l a w
  | 0 => ⟨hr, h⟩
  | f + 1 => ⟨fun _ => h, fun i hi => by rw [hr] at hi; cases hi⟩
theorem wpAnyL_all {S : Array Bool → World → Prop} {rs : List Nat} {f : Nat} {l : Array Bool} {a : Act} {w : World} (hr : Region.ready .any ops l = rs) (hne : rs ≠ [])
    (h : ∀ i ∈ rs, wpOp P ops Q i (fun a' w' => S (l.setIfInBounds i true) w' ∧ wpAnyL P ops Q S f (l.setIfInBounds i true) a' w') a w) : wpAnyL P ops Q S (f + 1) l a w :=
  ⟨fun h0 => absurd (hr.symm.trans h0) hne, fun i hi => h i (hr ▸ hi)⟩
/-- An operation that may come up now may be taken first: what it yields it yields as long as C holds, and C holds while it is pending. -/
theorem wpAnyL_first {S : Array Bool → World → Prop} {T : World → Prop} {C : Array Bool → Prop} {i : Nat} {oi : Oper} {v : Value} (hi : ops[i]? = some oi) (hsel : ∀ (j : Nat) (o : Oper) cs b, ops[j]? = some o → o.op ≠ .select cs b)
    (hQ : ∀ c a w, Q (.panic c) (a.put oi.dst v) w → Q (.panic c) a w)
    (hC : ∀ (l : Array Bool) (j : Nat) (oj : Oper), C l → ops[j]? = some oj → j ≠ i → l.getD j true = false → (∀ e ∈ oj.after, Region.binds .any e = true → e.on ≠ i) → C (l.setIfInBounds j true))
    (hST : ∀ l w, C l → S (l.setIfInBounds i true) w → T w) (hSS : ∀ l w, S (l.setIfInBounds i true) w → S l w) :
    ∀ (fuel : Nat) (listed : Array Bool) (a : Act) (w : World),
      (∀ j oj, ops[j]? = some oj → j ≠ i → listed.getD j true = false → (∀ e ∈ oj.after, Region.binds .any e = true → e.on ≠ i) → oi.apart ops oj = true) →
      i ∈ Region.ready .any ops listed → YieldsIf P ops T oi v a → C listed → T w → S (listed.setIfInBounds i true) w →
      wpAnyL P ops Q S fuel (listed.setIfInBounds i true) (a.put oi.dst v) w → wpAnyL P ops Q S (fuel + 1) listed a w := by
  intro fuel
  induction fuel with
  | zero =>
    intro listed a w _ hr hy hc hT hS H
    refine ⟨fun h => (by rw [h] at hr; cases hr), fun j hj => ?_⟩
    by_cases hji : j = i
    · subst hji; exact hy.wpOp hi hT ⟨hS, H⟩
    · have := ready_mono hj hji
      rw [H.1] at this
      cases this
  | succ fuel ih =>
    intro listed a w hfree hr hy hc hT hS H
    refine ⟨fun h => (by rw [h] at hr; cases hr), fun j hj => ?_⟩
    by_cases hji : j = i
    · subst hji; exact hy.wpOp hi hT ⟨hS, H⟩
    · have h1 := H.2 j (ready_mono hj hji)
      obtain ⟨hjun, oj, hoj, hall⟩ := mem_ready.1 hj
      have hnot : ∀ e ∈ oj.after, Region.binds .any e = true → e.on ≠ i := fun e he hb heq => by
        have h1 := hall e he hb
        have h0 := (mem_ready.1 hr).1
        rw [heq] at h1
        rcases Nat.lt_or_ge i listed.size with h' | h'
        · simp [h'] at h0 h1; rw [h0] at h1; cases h1
        · simp [Array.getElem?_eq_none h'] at h1
      have h2 := wpOp_putIf hoj (hfree j oj hoj hji hjun hnot) (fun cs b => hsel i oi cs b hi) (fun cs b => hsel j oj cs b hoj) hQ hy h1
      have hfree' : ∀ k ok, ops[k]? = some ok → k ≠ i → (listed.setIfInBounds j true).getD k true = false →
          (∀ e ∈ ok.after, Region.binds .any e = true → e.on ≠ i) → oi.apart ops ok = true := fun k ok hk hki hun hno => by
        refine hfree k ok hk hki ?_ hno
        by_cases hjk : j = k
        · subst hjk; exact hjun
        · rw [getD_set_ne true hjk] at hun; exact hun
      have hcj := hC listed j oj hc hoj hji hjun hnot
      refine wpOp_mono (fun a' w' h3 => ?_) h2
      obtain ⟨h3, h4, h5⟩ := h3
      rw [Array.setIfInBounds_comm _ _ (Ne.symm hji)] at h4 h5
      exact ⟨hSS _ _ h4, ih (listed.setIfInBounds j true) a' w' hfree' (ready_mono hr (Ne.symm hji)) h3 hcj (hST _ _ hcj h4) h4 h5⟩
end
end Go.Proofs.YtkjjegjafpefcaaDoor.R
