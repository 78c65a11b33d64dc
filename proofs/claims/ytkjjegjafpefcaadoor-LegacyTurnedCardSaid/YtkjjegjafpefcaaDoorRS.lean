/- A region in two parts: what comes ahead, and a tail that waits for all of it. -/
import Derived.Test.YtkjjegjafpefcaaDoorR1
import Derived.OrdersHeld
namespace Go.Proofs.YtkjjegjafpefcaaDoor.R
open Go
set_option linter.unusedVariables false
set_option linter.unusedSimpArgs false
section
variable {P : Program} {ops : Array Oper} {Q Q' : Exit → Act → World → Prop}
theorem wpAny_more : ∀ (f : Nat) (l : Array Bool) (a : Act) (w : World), wpAny P .any ops Q f l a w → wpAny P .any ops Q (f + 1) l a w
  | 0, l, a, w, h => ⟨fun _ => h.2, fun i hi => by rw [h.1] at hi; cases hi⟩
  | f + 1, l, a, w, h => ⟨h.1, fun i hi => wpOp_mono (fun a' w' h' => wpAny_more f _ a' w' h') (h.2 i hi)⟩
theorem wpAny_le {f g : Nat} (h : f ≤ g) {l : Array Bool} {a : Act} {w : World} (hw : wpAny P .any ops Q f l a w) : wpAny P .any ops Q g l a w := by
  induction h with
  | refl => exact hw
  | step _ ih => exact wpAny_more _ _ _ _ ih
theorem Oper.wp_two {o : Oper} {a : Act} {w : World} {K K' : Act → World → Prop} (hp : ∀ c a w, Q' (.panic c) a w → Q (.panic c) a w) (hl : LetsOut Q' → LetsOut Q) (h : ∀ a w, K' a w → K a w)
    (hh : o.wp P a w K' Q') : o.wp P a w K Q := by
  unfold Oper.wp at *
  generalize (execOp a.eval o).run P w = r at *
  cases r with
  | ok n w' =>
    cases n <;> simp only [Oper.upon] at hh ⊢ <;>
      first
        | exact h _ _ hh
        | exact Calls.mono hh (fun e w'' he => by cases e <;> first | exact h _ _ he | exact hp _ _ _ he | exact hl he)
        | exact Rows.mono hh (fun _ _ he => h _ _ he)
  | halt x w' => cases x <;> simp only [Oper.upon] at hh ⊢ <;> first | exact hp _ _ _ hh | exact hh
theorem wpOp_two {i : Nat} {a : Act} {w : World} {K K' : Act → World → Prop} (hp : ∀ c a w, Q' (.panic c) a w → Q (.panic c) a w) (hl : LetsOut Q' → LetsOut Q) (h : ∀ a w, K' a w → K a w)
    (hh : wpOp P ops Q' i K' a w) : wpOp P ops Q i K a w := by
  unfold wpOp at *
  split
  · exact h _ _ (by simpa [*] using hh)
  · rename_i o ho
    simp only [ho] at hh
    split
    · rename_i hw; simp only [hw, if_true] at hh; exact hh.imp (Oper.wp_two hp hl h) (fun x => ⟨x.1, hl x.2⟩)
    · rename_i hw; simp only [hw] at hh; exact h _ _ hh
structure SplitOK (ops : Array Oper) (J : Array Bool) : Prop where
  size : J.size = ops.size
  up : ∀ (i : Nat) (o : Oper), ops[i]? = some o → ∀ e ∈ o.after, Region.binds .any e = true → e.on < i
  out : ∀ (i : Nat) (o : Oper), ops[i]? = some o → J.getD i false = false → ∀ e ∈ o.after, Region.binds .any e = true → J.getD e.on false = false
  all : ∀ (i : Nat) (o : Oper), ops[i]? = some o → J.getD i false = true → ∀ j, j < ops.size → J.getD j false = false → ∃ e ∈ o.after, Region.binds .any e = true ∧ e.on = j
theorem splitOK_spec {J : Array Bool} (h : splitOK ops J = true) : SplitOK ops J := by
  unfold splitOK at h
  rw [Bool.and_eq_true, List.all_eq_true] at h
  obtain ⟨h1, h2⟩ := h
  have key : ∀ (i : Nat) (o : Oper), ops[i]? = some o → ((o.after.all fun e => !Region.binds .any e || (decide (e.on < i) && (J.getD i false || !J.getD e.on false))) && (!J.getD i false || (List.range ops.size).all fun j => J.getD j false || waits ops i j)) = true := by
    intro i o ho
    have := h2 i (List.mem_range.2 (Array.getElem?_eq_some_iff.1 ho).1)
    simpa only [ho] using this
  refine ⟨by simpa using h1, ?_, ?_, ?_⟩
  · intro i o ho e he hb
    have := (Bool.and_eq_true _ _ ▸ key i o ho).1
    have := Array.all_eq_true_iff_forall_mem.1 this e he
    simp only [hb, Bool.not_true, Bool.false_or, Bool.and_eq_true, decide_eq_true_eq] at this
    exact this.1
  · intro i o ho hJ e he hb
    have := (Bool.and_eq_true _ _ ▸ key i o ho).1
    have := Array.all_eq_true_iff_forall_mem.1 this e he
    simp only [hb, hJ, Bool.not_true, Bool.false_or, Bool.and_eq_true] at this
    simpa using this.2
  · intro i o ho hJ j hj hJj
    have := (Bool.and_eq_true _ _ ▸ key i o ho).2
    simp only [hJ, Bool.not_true, Bool.false_or] at this
    have := List.all_eq_true.1 this j (List.mem_range.2 hj)
    simp only [hJj, Bool.false_or, waits, ho] at this
    obtain ⟨n, hn, hx⟩ := Array.any_eq_true.1 this
    rw [Bool.and_eq_true, beq_iff_eq] at hx
    exact ⟨_, Array.getElem_mem hn, hx.1, hx.2⟩
theorem getD_in {l : Array Bool} {i : Nat} (h : i < l.size) (a b : Bool) : l.getD i a = l.getD i b := by simp [Array.getD, h]
theorem ready_mem {l : Array Bool} {i : Nat} : i ∈ Region.ready .any ops l ↔ ∃ o, ops[i]? = some o ∧ l.getD i true = false ∧ ∀ e ∈ o.after, Region.binds .any e = true → l.getD e.on false = true := by
  unfold Region.ready
  rw [List.mem_filter, List.mem_range, Bool.and_eq_true]
  constructor
  · rintro ⟨hi, h1, h2⟩
    rw [Array.getElem?_eq_getElem hi] at h2 ⊢
    refine ⟨_, rfl, by simpa using h1, fun e he hb => ?_⟩
    have := Array.all_eq_true_iff_forall_mem.1 (show (ops[i].after.all fun e => !Region.binds .any e || l.getD e.on false) = true from h2) e he
    simpa [hb] using this
  · rintro ⟨o, ho, h1, h2⟩
    refine ⟨(Array.getElem?_eq_some_iff.1 ho).1, by simpa using h1, ?_⟩
    rw [ho]
    refine Array.all_eq_true_iff_forall_mem.2 fun e he => ?_
    cases hb : Region.binds .any e with
    | false => rfl
    | true => simpa using h2 e he hb
theorem ready_nil {J : Array Bool} (hJ : SplitOK ops J) {l : Array Bool} (hs : l.size = ops.size) (h : Region.ready .any ops l = []) : ∀ i, i < ops.size → l.getD i true = true := by
  intro i
  induction i using Nat.strongRecOn with
  | ind i ih =>
    intro hi
    cases hl : l.getD i true with
    | true => rfl
    | false =>
      have : i ∈ Region.ready .any ops l := ready_mem.2 ⟨ops[i], Array.getElem?_eq_getElem hi, hl, fun e he hb => by
        have hlt := hJ.up i _ (Array.getElem?_eq_getElem hi) e he hb
        rw [getD_in (by omega) false true]
        exact ih e.on hlt (by omega)⟩
      rw [h] at this; cases this
theorem wpAny_split {J : Array Bool} (hJ : SplitOK ops J) (hp : ∀ c a w, Q' (.panic c) a w → Q (.panic c) a w) (hl : LetsOut Q' → LetsOut Q) (f2 : Nat) (hn : ∀ a w, Q' .normal a w → wpAny P .any ops Q f2 (J.map not) a w) :
    ∀ (f1 : Nat) (l l' : Array Bool) (a : Act) (w : World), l.size = ops.size → l'.size = ops.size → (∀ i, i < ops.size → l'.getD i true = (l.getD i true || J.getD i false)) → (∀ i, i < ops.size → J.getD i false = true → l.getD i true = false) →
      wpAny P .any ops Q' f1 l' a w → wpAny P .any ops Q (f1 + f2) l a w := by
  have fin : ∀ (l l' : Array Bool), l.size = ops.size → l'.size = ops.size → (∀ i, i < ops.size → l'.getD i true = (l.getD i true || J.getD i false)) → (∀ i, i < ops.size → J.getD i false = true → l.getD i true = false) → Region.ready .any ops l' = [] → l = J.map not := by
    intro l l' h1 h2 h3 h4 h5
    have hall := ready_nil hJ h2 h5
    refine Array.ext (by rw [h1, Array.size_map, hJ.size]) fun i hi1 hi2 => ?_
    have hi : i < ops.size := by omega
    have hiJ : i < J.size := by rw [hJ.size]; exact hi
    rw [Array.getElem_map]
    have a1 := h3 i hi
    rw [hall i hi] at a1
    have e1 : l.getD i true = l[i] := by simp [Array.getD, hi1]
    have e2 : J.getD i false = J[i] := by simp [Array.getD, hiJ]
    rw [e1, e2] at a1
    cases hj : J[i] with
    | false => rw [hj, Bool.or_false] at a1; rw [← a1]; rfl
    | true => have := h4 i hi (by rw [e2]; exact hj); rw [e1] at this; rw [this]; rfl
  intro f1
  induction f1 with
  | zero =>
    intro l l' a w h1 h2 h3 h4 h
    rw [fin l l' h1 h2 h3 h4 h.1, Nat.zero_add]
    exact hn a w h.2
  | succ f1 ih =>
    intro l l' a w h1 h2 h3 h4 h
    by_cases hr : Region.ready .any ops l' = []
    · rw [fin l l' h1 h2 h3 h4 hr]
      exact wpAny_le (by omega) (hn a w (h.1 hr))
    · obtain ⟨j, hj⟩ := List.exists_mem_of_ne_nil _ hr
      obtain ⟨oj, hoj, hj1, hj2⟩ := ready_mem.1 hj
      have hjs := (Array.getElem?_eq_some_iff.1 hoj).1
      have hjl := h3 j hjs
      rw [hj1] at hjl
      obtain ⟨hjl1, hjJ⟩ := Bool.or_eq_false_iff.1 hjl.symm
      have hjr : j ∈ Region.ready .any ops l := ready_mem.2 ⟨oj, hoj, hjl1, fun e he hb => by
        have hlt := hJ.up j oj hoj e he hb
        have ho := hJ.out j oj hoj hjJ e he hb
        have := hj2 e he hb
        rw [getD_in (by omega) false true, h3 e.on (by omega), ho, Bool.or_false] at this
        rw [getD_in (by omega) false true]; exact this⟩
      rw [show f1 + 1 + f2 = (f1 + f2) + 1 by omega]
      refine ⟨fun h0 => (by rw [h0] at hjr; cases hjr), fun i hi => ?_⟩
      obtain ⟨oi, hoi, hi1, hi2⟩ := ready_mem.1 hi
      have his := (Array.getElem?_eq_some_iff.1 hoi).1
      have hiJ : J.getD i false = false := by
        cases hx : J.getD i false with
        | false => rfl
        | true =>
          obtain ⟨e, he, hb, hej⟩ := hJ.all i oi hoi hx j hjs hjJ
          have := hi2 e he hb
          rw [hej, getD_in (by omega) false true, hjl1] at this
          cases this
      have hi' : i ∈ Region.ready .any ops l' := ready_mem.2 ⟨oi, hoi, by rw [h3 i his, hi1, hiJ]; rfl, fun e he hb => by
        have hlt := hJ.up i oi hoi e he hb
        have := hi2 e he hb
        rw [getD_in (by omega) false true] at this
        rw [getD_in (by omega) false true, h3 e.on (by omega), this]; rfl⟩
      have set_get : ∀ (m : Array Bool) (k : Nat), m.size = ops.size → k < ops.size → (m.setIfInBounds i true).getD k true = if k = i then true else m.getD k true := by
        intro m k hm hk
        by_cases hki : k = i
        · subst hki; simp [Array.getD, hm, hk]
        · rw [if_neg hki]
          simp [Array.getD, hm, hk, Array.getElem_setIfInBounds, Ne.symm hki]
      refine wpOp_two hp hl (fun a' w' h' => ih (l.setIfInBounds i true) (l'.setIfInBounds i true) a' w' (by simpa using h1) (by simpa using h2) (fun k hk => ?_) (fun k hk hkJ => ?_) h') (h.2 i hi')
      · rw [set_get l' k h2 hk, set_get l k h1 hk, h3 k hk]
        split <;> rfl
      · rw [set_get l k h1 hk, if_neg (by rintro rfl; rw [hiJ] at hkJ; cases hkJ)]
        exact h4 k hk hkJ
end
end Go.Proofs.YtkjjegjafpefcaaDoor.R
