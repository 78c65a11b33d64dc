/- What a state that is known in part says of a world -/
import Derived.Test.YtmmbedlegmbppaaDoorR1
import Derived.OrdersHeld
import Derived.Below
import Derived.Laws.AppendOwn
import Derived.Tactics
import Derived.Laws.Cells
import Derived.Laws.Entries
import Derived.Laws.BytesString
/- A region in two parts: what comes ahead, and a tail that waits for all of it. -/
namespace Go.Proofs.YtmmbedlegmbppaaDoor.R
open Go
set_option linter.unusedVariables false
set_option linter.unusedSimpArgs false
section
variable {P : Program} {ops : Array Oper} {Q Q' : Exit → Act → World → Prop}
theorem wpAny_more : ∀ (f : Nat) (l : Array Bool) (a : Act) (w : World), wpAny P .any ops Q f l a w → wpAny P .any ops Q (f + 1) l a w
  | 0, l, a, w, h => ⟨fun _ => h.2, fun i hi => by rw [h.1] at hi; cases hi⟩
  | f + 1, l, a, w, h => ⟨h.1, fun i hi => wpOp_mono (fun a' w' h' => wpAny_more f _ a' w' h') (h.2 i hi)⟩
theorem wpAny_le {f g : Nat} (h : f ≤ g) {l : Array Bool} {a : Act} {w : World} (hw : wpAny P .any ops Q f l a w) : wpAny P .any ops Q g l a w := by
  induction h with
  | refl => exact hw
  | step _ ih => exact wpAny_more _ _ _ _ ih
theorem Oper.wp_two {o : Oper} {a : Act} {w : World} {K K' : Act → World → Prop} (hp : ∀ c a w, Q' (.panic c) a w → Q (.panic c) a w) (hl : LetsOut Q' → LetsOut Q) (h : ∀ a w, K' a w → K a w)
    (hh : o.wp P a w K' Q') : o.wp P a w K Q := by
  unfold Oper.wp at *
  generalize (execOp a.eval o).run P w = r at *
  cases r with
  | ok n w' =>
    cases n <;> simp only [Oper.upon] at hh ⊢ <;>
      first
        | exact h _ _ hh
        | exact Calls.mono hh (fun e w'' he => by cases e <;> first | exact h _ _ he | exact hp _ _ _ he | exact hl he)
        | exact Rows.mono hh (fun _ _ he => h _ _ he)
  | halt x w' => cases x <;> simp only [Oper.upon] at hh ⊢ <;> first | exact hp _ _ _ hh | exact hh
theorem wpOp_two {i : Nat} {a : Act} {w : World} {K K' : Act → World → Prop} (hp : ∀ c a w, Q' (.panic c) a w → Q (.panic c) a w) (hl : LetsOut Q' → LetsOut Q) (h : ∀ a w, K' a w → K a w)
    (hh : wpOp P ops Q' i K' a w) : wpOp P ops Q i K a w := by
  unfold wpOp at *
  split
  · exact h _ _ (by simpa [*] using hh)
  · rename_i o ho
    simp only [ho] at hh
    split
    · rename_i hw; simp only [hw, if_true] at hh; exact hh.imp (Oper.wp_two hp hl h) (fun x => ⟨x.1, hl x.2⟩)
    · rename_i hw; simp only [hw] at hh; exact h _ _ hh
structure SplitOK (ops : Array Oper) (J : Array Bool) : Prop where
  size : J.size = ops.size
  up : ∀ (i : Nat) (o : Oper), ops[i]? = some o → ∀ e ∈ o.after, Region.binds .any e = true → e.on < i
  out : ∀ (i : Nat) (o : Oper), ops[i]? = some o → J.getD i false = false → ∀ e ∈ o.after, Region.binds .any e = true → J.getD e.on false = false
  all : ∀ (i : Nat) (o : Oper), ops[i]? = some o → J.getD i false = true → ∀ j, j < ops.size → J.getD j false = false → ∃ e ∈ o.after, Region.binds .any e = true ∧ e.on = j
theorem splitOK_spec {J : Array Bool} (h : splitOK ops J = true) : SplitOK ops J := by
  unfold splitOK at h
  rw [Bool.and_eq_true, List.all_eq_true] at h
  obtain ⟨h1, h2⟩ := h
  have key : ∀ (i : Nat) (o : Oper), ops[i]? = some o → ((o.after.all fun e => !Region.binds .any e || (decide (e.on < i) && (J.getD i false || !J.getD e.on false))) && (!J.getD i false || (List.range ops.size).all fun j => J.getD j false || waits ops i j)) = true := by
    intro i o ho
    have := h2 i (List.mem_range.2 (Array.getElem?_eq_some_iff.1 ho).1)
    simpa only [ho] using this
  refine ⟨by simpa using h1, ?_, ?_, ?_⟩
  · intro i o ho e he hb
    have := (Bool.and_eq_true _ _ ▸ key i o ho).1
    have := Array.all_eq_true_iff_forall_mem.1 this e he
    simp only [hb, Bool.not_true, Bool.false_or, Bool.and_eq_true, decide_eq_true_eq] at this
    exact this.1
  · intro i o ho hJ e he hb
    have := (Bool.and_eq_true _ _ ▸ key i o ho).1
    have := Array.all_eq_true_iff_forall_mem.1 this e he
    simp only [hb, hJ, Bool.not_true, Bool.false_or, Bool.and_eq_true] at this
    simpa using this.2
  · intro i o ho hJ j hj hJj
    have := (Bool.and_eq_true _ _ ▸ key i o ho).2
    simp only [hJ, Bool.not_true, Bool.false_or] at this
    have := List.all_eq_true.1 this j (List.mem_range.2 hj)
    simp only [hJj, Bool.false_or, waits, ho] at this
    obtain ⟨n, hn, hx⟩ := Array.any_eq_true.1 this
    rw [Bool.and_eq_true, beq_iff_eq] at hx
    exact ⟨_, Array.getElem_mem hn, hx.1, hx.2⟩
theorem getD_in {l : Array Bool} {i : Nat} (h : i < l.size) (a b : Bool) : l.getD i a = l.getD i b := by simp [Array.getD, h]
theorem ready_mem {l : Array Bool} {i : Nat} : i ∈ Region.ready .any ops l ↔ ∃ o, ops[i]? = some o ∧ l.getD i true = false ∧ ∀ e ∈ o.after, Region.binds .any e = true → l.getD e.on false = true := by
  unfold Region.ready
  rw [List.mem_filter, List.mem_range, Bool.and_eq_true]
  constructor
  · rintro ⟨hi, h1, h2⟩
    rw [Array.getElem?_eq_getElem hi] at h2 ⊢
    refine ⟨_, rfl, by simpa using h1, fun e he hb => ?_⟩
    have := Array.all_eq_true_iff_forall_mem.1 (show (ops[i].after.all fun e => !Region.binds .any e || l.getD e.on false) = true from h2) e he
    simpa [hb] using this
  · rintro ⟨o, ho, h1, h2⟩
    refine ⟨(Array.getElem?_eq_some_iff.1 ho).1, by simpa using h1, ?_⟩
    rw [ho]
    refine Array.all_eq_true_iff_forall_mem.2 fun e he => ?_
    cases hb : Region.binds .any e with
    | false => rfl
    | true => simpa using h2 e he hb
theorem ready_nil {J : Array Bool} (hJ : SplitOK ops J) {l : Array Bool} (hs : l.size = ops.size) (h : Region.ready .any ops l = []) : ∀ i, i < ops.size → l.getD i true = true := by
  intro i
  induction i using Nat.strongRecOn with
  | ind i ih =>
    intro hi
    cases hl : l.getD i true with
    | true => rfl
    | false =>
      have : i ∈ Region.ready .any ops l := ready_mem.2 ⟨ops[i], Array.getElem?_eq_getElem hi, hl, fun e he hb => by
        have hlt := hJ.up i _ (Array.getElem?_eq_getElem hi) e he hb
        rw [getD_in (by omega) false true]
        exact ih e.on hlt (by omega)⟩
      rw [h] at this; cases this
theorem wpAny_split {J : Array Bool} (hJ : SplitOK ops J) (hp : ∀ c a w, Q' (.panic c) a w → Q (.panic c) a w) (hl : LetsOut Q' → LetsOut Q) (f2 : Nat) (hn : ∀ a w, Q' .normal a w → wpAny P .any ops Q f2 (J.map not) a w) :
    ∀ (f1 : Nat) (l l' : Array Bool) (a : Act) (w : World), l.size = ops.size → l'.size = ops.size → (∀ i, i < ops.size → l'.getD i true = (l.getD i true || J.getD i false)) → (∀ i, i < ops.size → J.getD i false = true → l.getD i true = false) →
      wpAny P .any ops Q' f1 l' a w → wpAny P .any ops Q (f1 + f2) l a w := by
  have fin : ∀ (l l' : Array Bool), l.size = ops.size → l'.size = ops.size → (∀ i, i < ops.size → l'.getD i true = (l.getD i true || J.getD i false)) → (∀ i, i < ops.size → J.getD i false = true → l.getD i true = false) → Region.ready .any ops l' = [] → l = J.map not := by
    intro l l' h1 h2 h3 h4 h5
    have hall := ready_nil hJ h2 h5
    refine Array.ext (by rw [h1, Array.size_map, hJ.size]) fun i hi1 hi2 => ?_
    have hi : i < ops.size := by omega
    have hiJ : i < J.size := by rw [hJ.size]; exact hi
    rw [Array.getElem_map]
    have a1 := h3 i hi
    rw [hall i hi] at a1
    have e1 : l.getD i true = l[i] := by simp [Array.getD, hi1]
    have e2 : J.getD i false = J[i] := by simp [Array.getD, hiJ]
    rw [e1, e2] at a1
    cases hj : J[i] with
    | false => rw [hj, Bool.or_false] at a1; rw [← a1]; rfl
    | true => have := h4 i hi (by rw [e2]; exact hj); rw [e1] at this; rw [this]; rfl
  intro f1
  induction f1 with
  | zero =>
    intro l l' a w h1 h2 h3 h4 h
    rw [fin l l' h1 h2 h3 h4 h.1, Nat.zero_add]
    exact hn a w h.2
  | succ f1 ih =>
    intro l l' a w h1 h2 h3 h4 h
    by_cases hr : Region.ready .any ops l' = []
    · rw [fin l l' h1 h2 h3 h4 hr]
      exact wpAny_le (by omega) (hn a w (h.1 hr))
    · obtain ⟨j, hj⟩ := List.exists_mem_of_ne_nil _ hr
      obtain ⟨oj, hoj, hj1, hj2⟩ := ready_mem.1 hj
      have hjs := (Array.getElem?_eq_some_iff.1 hoj).1
      have hjl := h3 j hjs
      rw [hj1] at hjl
      obtain ⟨hjl1, hjJ⟩ := Bool.or_eq_false_iff.1 hjl.symm
      have hjr : j ∈ Region.ready .any ops l := ready_mem.2 ⟨oj, hoj, hjl1, fun e he hb => by
        have hlt := hJ.up j oj hoj e he hb
        have ho := hJ.out j oj hoj hjJ e he hb
        have := hj2 e he hb
        rw [getD_in (by omega) false true, h3 e.on (by omega), ho, Bool.or_false] at this
        rw [getD_in (by omega) false true]; exact this⟩
      rw [show f1 + 1 + f2 = (f1 + f2) + 1 by omega]
      refine ⟨fun h0 => (by rw [h0] at hjr; cases hjr), fun i hi => ?_⟩
      obtain ⟨oi, hoi, hi1, hi2⟩ := ready_mem.1 hi
      have his := (Array.getElem?_eq_some_iff.1 hoi).1
      have hiJ : J.getD i false = false := by
        cases hx : J.getD i false with
        | false => rfl
        | true =>
          obtain ⟨e, he, hb, hej⟩ := hJ.all i oi hoi hx j hjs hjJ
          have := hi2 e he hb
          rw [hej, getD_in (by omega) false true, hjl1] at this
          cases this
      have hi' : i ∈ Region.ready .any ops l' := ready_mem.2 ⟨oi, hoi, by rw [h3 i his, hi1, hiJ]; rfl, fun e he hb => by
        have hlt := hJ.up i oi hoi e he hb
        have := hi2 e he hb
        rw [getD_in (by omega) false true] at this
        rw [getD_in (by omega) false true, h3 e.on (by omega), this]; rfl⟩
      have set_get : ∀ (m : Array Bool) (k : Nat), m.size = ops.size → k < ops.size → (m.setIfInBounds i true).getD k true = if k = i then true else m.getD k true := by
        intro m k hm hk
        by_cases hki : k = i
        · subst hki; simp [Array.getD, hm, hk]
        · rw [if_neg hki]
          simp [Array.getD, hm, hk, Array.getElem_setIfInBounds, Ne.symm hki]
      refine wpOp_two hp hl (fun a' w' h' => ih (l.setIfInBounds i true) (l'.setIfInBounds i true) a' w' (by simpa using h1) (by simpa using h2) (fun k hk => ?_) (fun k hk hkJ => ?_) h') (h.2 i hi')
      · rw [set_get l' k h2 hk, set_get l k h1 hk, h3 k hk]
        split <;> rfl
      · rw [set_get l k h1 hk, if_neg (by rintro rfl; rw [hiJ] at hkJ; cases hkJ)]
        exact h4 k hk hkJ
/-! ### a last one, behind all others -/
structure SinkOK (ops : Array Oper) : Prop where
  pos : 0 < ops.size
  up : ∀ (i : Nat) (o : Oper), ops[i]? = some o → ∀ e ∈ o.after, Region.binds .any e = true → e.on < i
  next : ∀ k, k + 1 < ops.size → ∃ (m : Nat) (o : Oper), ops[m]? = some o ∧ ∃ e ∈ o.after, Region.binds .any e = true ∧ e.on = k
theorem sinkOK_spec (h : sinkOK ops = true) (h0 : 0 < ops.size) : SinkOK ops := by
  have key : ∀ i (o : Oper), ops[i]? = some o → (o.after.all fun e => !Region.binds .any e || decide (e.on < i)) = true ∧ (i + 1 == ops.size || (List.range ops.size).any fun j => waits ops j i) = true := by
    intro i o ho
    have := List.all_eq_true.1 h i (List.mem_range.2 (Array.getElem?_eq_some_iff.1 ho).1)
    rw [ho] at this
    exact (Bool.and_eq_true _ _ ▸ this)
  refine ⟨h0, fun i o ho e he hb => ?_, fun k hk => ?_⟩
  · have := Array.all_eq_true_iff_forall_mem.1 (key i o ho).1 e he
    simpa [hb] using this
  · have h1 := (key k ops[k] (Array.getElem?_eq_getElem (by omega))).2
    rw [Bool.or_eq_true] at h1
    rcases h1 with h1 | h1
    · have := beq_iff_eq.1 h1
      omega
    · obtain ⟨m, hm, hw⟩ := List.any_eq_true.1 h1
      unfold waits at hw
      split at hw
      · rename_i o ho
        obtain ⟨n, hn, hx⟩ := Array.any_eq_true.1 hw
        rw [Bool.and_eq_true, beq_iff_eq] at hx
        exact ⟨m, o, ho, _, Array.getElem_mem hn, hx.1, hx.2⟩
      · cases hw
theorem SinkOK.none (hk : SinkOK ops) : SplitOK ops (Array.replicate ops.size false) := by
  have hf : ∀ i, (Array.replicate ops.size false).getD i false = false := fun i => by simp [Array.getD]
  exact ⟨by simp, hk.up, fun i o ho _ e he hb => hf _, fun i o ho h => by rw [hf] at h; cases h⟩
/-- What is done waited for nothing that is not. -/
def Closed (ops : Array Oper) (l : Array Bool) : Prop := ∀ (i : Nat) (o : Oper), ops[i]? = some o → l.getD i true = true → ∀ e ∈ o.after, Region.binds .any e = true → l.getD e.on true = true
theorem SinkOK.all (hk : SinkOK ops) {l : Array Bool} (hs : l.size = ops.size) (hc : Closed ops l) (hr : ops.size - 1 ∈ Region.ready .any ops l) : ∀ (n k : Nat), ops.size - k ≤ n → k + 1 < ops.size → l.getD k true = true := by
  intro n
  induction n with
  | zero => intro k h1 h2; omega
  | succ n ih =>
    intro k h1 h2
    obtain ⟨m, o, ho, e, he, hb, hek⟩ := hk.next k h2
    have hm := (Array.getElem?_eq_some_iff.1 ho).1
    have hlt := hk.up m o ho e he hb
    by_cases hml : m + 1 = ops.size
    · obtain ⟨o', ho', _, hd⟩ := ready_mem.1 hr
      have : m = ops.size - 1 := by omega
      subst this
      rw [ho] at ho'
      obtain rfl := Option.some.inj ho'
      have := hd e he hb
      rw [getD_in (by omega) false true, hek] at this
      exact this
    · have := hc m o ho (ih m (by omega) (by omega)) e he hb
      rw [hek] at this
      exact this
theorem lastJ_size (h0 : 0 < ops.size) : (lastJ ops).size = ops.size := by unfold lastJ; simp; omega
theorem lastJ_get (h0 : 0 < ops.size) {i : Nat} (hi : i < ops.size) : (lastJ ops).getD i true = decide (i + 1 = ops.size) := by
  have hi' : i < (lastJ ops).size := by rw [lastJ_size h0]; exact hi
  have e1 : (lastJ ops).getD i true = (lastJ ops)[i] := by simp only [Array.getD, hi', dif_pos]; rfl
  have key : ∀ (A : Array Bool) (h : i < A.size), A = (Array.replicate (ops.size - 1) false).push true → A[i] = decide (i + 1 = ops.size) := by
    rintro A h rfl
    rw [Array.getElem_push]
    by_cases hil : i + 1 = ops.size
    · rw [dif_neg (by simp; omega), decide_eq_true hil]
    · rw [dif_pos (by simp; omega), decide_eq_false hil]; simp
  rw [e1]
  exact key _ hi' rfl
theorem wpAny_last (hk : SinkOK ops) (hp : ∀ c a w, Q' (.panic c) a w → Q (.panic c) a w) (hl : LetsOut Q' → LetsOut Q) (hn : ∀ a w, Q' .normal a w → wpAny P .any ops Q 1 ((lastJ ops).map not) a w) :
    ∀ (f1 : Nat) (l l' : Array Bool) (a : Act) (w : World), l.size = ops.size → l'.size = ops.size → (∀ i, i < ops.size → l'.getD i true = (l.getD i true || decide (i + 1 = ops.size))) → l.getD (ops.size - 1) true = false → Closed ops l →
      wpAny P .any ops Q' f1 l' a w → wpAny P .any ops Q (f1 + 1) l a w := by
  have hpos := hk.pos
  have fin : ∀ (l l' : Array Bool), l.size = ops.size → l'.size = ops.size → (∀ i, i < ops.size → l'.getD i true = (l.getD i true || decide (i + 1 = ops.size))) → l.getD (ops.size - 1) true = false → Region.ready .any ops l' = [] → l = (lastJ ops).map not := by
    intro l l' h1 h2 h3 h4 h5
    have hall := ready_nil hk.none h2 h5
    refine Array.ext (by rw [h1, Array.size_map, lastJ_size hpos]) fun i hi1 hi2 => ?_
    have hi : i < ops.size := by omega
    rw [Array.getElem_map]
    have a1 := h3 i hi
    rw [hall i hi] at a1
    have e1 : l.getD i true = l[i] := by simp [Array.getD, hi1]
    unfold lastJ
    rw [Array.getElem_push]
    by_cases hil : i + 1 = ops.size
    · have : i = ops.size - 1 := by omega
      rw [dif_neg (by simp; omega)]
      subst this
      rw [← e1, h4]; rfl
    · rw [dif_pos (by simp; omega)]
      rw [decide_eq_false hil, Bool.or_false, e1] at a1
      rw [← a1]
      simp
  intro f1
  induction f1 with
  | zero =>
    intro l l' a w h1 h2 h3 h4 hc h
    rw [fin l l' h1 h2 h3 h4 h.1, Nat.zero_add]
    exact hn a w h.2
  | succ f1 ih =>
    intro l l' a w h1 h2 h3 h4 hc h
    by_cases hr : Region.ready .any ops l' = []
    · rw [fin l l' h1 h2 h3 h4 hr]
      exact wpAny_le (by omega) (hn a w (h.1 hr))
    · obtain ⟨j, hj⟩ := List.exists_mem_of_ne_nil _ hr
      obtain ⟨oj, hoj, hj1, hj2⟩ := ready_mem.1 hj
      have hjs := (Array.getElem?_eq_some_iff.1 hoj).1
      have hjl := h3 j hjs
      rw [hj1] at hjl
      obtain ⟨hjl1, hjl2⟩ := Bool.or_eq_false_iff.1 hjl.symm
      have hjn : ¬ j + 1 = ops.size := of_decide_eq_false hjl2
      have hjr : j ∈ Region.ready .any ops l := ready_mem.2 ⟨oj, hoj, hjl1, fun e he hb => by
        have hlt := hk.up j oj hoj e he hb
        have := hj2 e he hb
        rw [getD_in (by omega) false true, h3 e.on (by omega), decide_eq_false (by omega), Bool.or_false] at this
        rw [getD_in (by omega) false true]; exact this⟩
      rw [show f1 + 1 + 1 = (f1 + 1) + 1 by omega]
      refine ⟨fun h0 => (by rw [h0] at hjr; cases hjr), fun i hi => ?_⟩
      obtain ⟨oi, hoi, hi1, hi2⟩ := ready_mem.1 hi
      have his := (Array.getElem?_eq_some_iff.1 hoi).1
      have hil : ¬ i + 1 = ops.size := by
        intro hx
        have : i = ops.size - 1 := by omega
        subst this
        have := hk.all h1 hc hi ops.size j (by omega) (by omega)
        rw [hjl1] at this; cases this
      have hi' : i ∈ Region.ready .any ops l' := ready_mem.2 ⟨oi, hoi, by rw [h3 i his, hi1, decide_eq_false hil]; rfl, fun e he hb => by
        have hlt := hk.up i oi hoi e he hb
        have := hi2 e he hb
        rw [getD_in (by omega) false true] at this
        rw [getD_in (by omega) false true, h3 e.on (by omega), this]; rfl⟩
      have set_get : ∀ (m : Array Bool) (k : Nat), m.size = ops.size → k < ops.size → (m.setIfInBounds i true).getD k true = if k = i then true else m.getD k true := by
        intro m k hm hk
        by_cases hki : k = i
        · subst hki; simp [Array.getD, hm, hk]
        · rw [if_neg hki]
          simp [Array.getD, hm, hk, Array.getElem_setIfInBounds, Ne.symm hki]
      refine wpOp_two hp hl (fun a' w' h' => ih (l.setIfInBounds i true) (l'.setIfInBounds i true) a' w' (by simpa using h1) (by simpa using h2) (fun k hk => ?_) ?_ (fun k o ho hd e he hb => ?_) h') (h.2 i hi')
      · rw [set_get l' k h2 hk, set_get l k h1 hk, h3 k hk]
        split <;> rfl
      · rw [set_get l _ h1 (by omega), if_neg (by omega)]
        exact h4
      · have hks := (Array.getElem?_eq_some_iff.1 ho).1
        have hlt := hk.up k o ho e he hb
        rw [set_get l k h1 hks] at hd
        rw [set_get l e.on h1 (by omega)]
        split
        · rfl
        · by_cases hki : k = i
          · subst hki
            rw [hoi] at ho
            obtain rfl := Option.some.inj ho
            have := hi2 e he hb
            rw [getD_in (by omega) false true] at this
            exact this
          · rw [if_neg hki] at hd
            exact hc k o ho hd e he hb
/-- The last one alone. -/
theorem wpAny_one {o : Oper} (hk : SinkOK ops) (ho : ops[ops.size - 1]? = some o) (hg : o.guard = none) {a : Act} {w : World} (h : o.wp P a w (Q .normal) Q) : wpAny P .any ops Q 1 ((lastJ ops).map not) a w := by
  have hpos := hk.pos
  have get : ∀ i, i < ops.size → ((lastJ ops).map not).getD i true = !decide (i + 1 = ops.size) := by
    intro i hi
    have hs := lastJ_size hpos
    have hi' : i < ((lastJ ops).map not).size := by rw [Array.size_map, hs]; exact hi
    have e1 : ((lastJ ops).map not).getD i true = ((lastJ ops).map not)[i] := by simp only [Array.getD, hi', dif_pos]; rfl
    rw [e1, Array.getElem_map]
    congr 1
    unfold lastJ
    rw [Array.getElem_push]
    by_cases hil : i + 1 = ops.size
    · rw [dif_neg (by simp; omega), decide_eq_true hil]
    · rw [dif_pos (by simp; omega), decide_eq_false hil]; simp
  have hsz : ((lastJ ops).map not).size = ops.size := by rw [Array.size_map, lastJ_size hpos]
  have hmem : ops.size - 1 ∈ Region.ready .any ops ((lastJ ops).map not) := ready_mem.2 ⟨o, ho, by rw [get _ (by omega), decide_eq_true (by omega)]; rfl, fun e he hb => by
    have := hk.up _ o ho e he hb
    rw [getD_in (by omega) false true, get _ (by omega), decide_eq_false (by omega)]; rfl⟩
  refine ⟨fun h0 => (by rw [h0] at hmem; cases hmem), fun i hi => ?_⟩
  obtain ⟨oi, hoi, hi1, _⟩ := ready_mem.1 hi
  have his := (Array.getElem?_eq_some_iff.1 hoi).1
  rw [get i his] at hi1
  have hil : i + 1 = ops.size := by simpa using hi1
  have : i = ops.size - 1 := by omega
  subst this
  unfold wpOp
  rw [ho]
  dsimp only
  rw [if_pos (by simp [Region.wanted, hg])]
  refine .inl (Oper.wp_mono (fun a' w' hq => ⟨?_, hq⟩) h)
  cases hrd : Region.ready .any ops (((lastJ ops).map not).setIfInBounds (ops.size - 1) true) with
  | nil => rfl
  | cons j r =>
    have hj : j ∈ Region.ready .any ops (((lastJ ops).map not).setIfInBounds (ops.size - 1) true) := by rw [hrd]; simp
    obtain ⟨oj, hoj, hj1, _⟩ := ready_mem.1 hj
    have hjs := (Array.getElem?_eq_some_iff.1 hoj).1
    by_cases hjl : j = ops.size - 1
    · subst hjl
      simp [Array.getD, hsz, hjs] at hj1
    · have e1 : (((lastJ ops).map not).setIfInBounds (ops.size - 1) true).getD j true = ((lastJ ops).map not).getD j true := by
        simp [Array.getD, hsz, hjs, Array.getElem_setIfInBounds, Ne.symm hjl]
      rw [e1, get j hjs, decide_eq_false (by omega)] at hj1
      cases hj1
end
end Go.Proofs.YtmmbedlegmbppaaDoor.R
/- A region's orders, with a condition on the world that holds as long as none of some operations has been carried out. -/
namespace Go.Proofs.YtmmbedlegmbppaaDoor.R
open Go
set_option linter.unusedVariables false
set_option linter.unusedSimpArgs false
section
variable {P : Program} {ops : Array Oper} {Q : Exit → Act → World → Prop}
/-- Whatever order is picked from here on; and as long as none of N has been carried out since l0, T holds. -/
def wpAnyL (P : Program) (ops : Array Oper) (Q : Exit → Act → World → Prop) (S : Array Bool → World → Prop) : Nat → Array Bool → Act → World → Prop
  | 0, l, a, w => Region.ready .any ops l = [] ∧ Q .normal a w
  | f + 1, l, a, w =>
    (Region.ready .any ops l = [] → Q .normal a w) ∧
    ∀ i ∈ Region.ready .any ops l, wpOp P ops Q i (fun a' w' => S (l.setIfInBounds i true) w' ∧ wpAnyL P ops Q S f (l.setIfInBounds i true) a' w') a w
def Till (N : Nat → Bool) (l0 : Array Bool) (T : World → Prop) (l : Array Bool) (w : World) : Prop := (∀ j, N j = true → l.getD j true = l0.getD j true) → T w
theorem wpAny_of_L {S : Array Bool → World → Prop} : ∀ (f : Nat) (l : Array Bool) (a : Act) (w : World), wpAnyL P ops Q S f l a w → wpAny P .any ops Q f l a w
  | 0, _, _, _, h => h
  | f + 1, _, _, _, h => ⟨h.1, fun i hi => wpOp_mono (fun a' w' h' => wpAny_of_L f _ a' w' h'.2) (h.2 i hi)⟩
theorem wpAnyL_mono {S S' : Array Bool → World → Prop} : ∀ (f : Nat) (l : Array Bool) (a : Act) (w : World), (∀ l' w, l'.size = l.size → (∀ j, l.getD j true = true → l'.getD j true = true) → S' l' w → S l' w) → wpAnyL P ops Q S' f l a w → wpAnyL P ops Q S f l a w
  | 0, _, _, _, _, h => h
  | f + 1, l, a, w, hS, h => ⟨h.1, fun i hi => wpOp_mono (fun a' w' h' => by
      have hm : ∀ j, l.getD j true = true → (l.setIfInBounds i true).getD j true = true := by
        intro j hj
        by_cases hji : i = j
        · subst hji
          by_cases hs : i < l.size
          · simp [Array.getD, hs]
          · simp [Array.getD, hs]
        · by_cases hs : j < l.size
          · simp [Array.getD, hs, Array.getElem_setIfInBounds, hji] at hj ⊢; exact hj
          · simp [Array.getD, hs]
      exact ⟨hS _ _ (by simp) hm h'.1, wpAnyL_mono f _ a' w' (fun l' w2 h1 h2 h3 => hS l' w2 (by rw [h1]; simp) (fun j hj => h2 j (hm j hj)) h3) h'.2⟩) (h.2 i hi)⟩
theorem wpAnyL_done {S : Array Bool → World → Prop} {l : Array Bool} {a : Act} {w : World} (hr : Region.ready .any ops l = []) (h : Q .normal a w) : ∀ f, wpAnyL P ops Q S f l a w
  | 0 => ⟨hr, h⟩
  | f + 1 => ⟨fun _ => h, fun i hi => by rw [hr] at hi; cases hi⟩
theorem wpAnyL_all {S : Array Bool → World → Prop} {rs : List Nat} {f : Nat} {l : Array Bool} {a : Act} {w : World} (hr : Region.ready .any ops l = rs) (hne : rs ≠ [])
    (h : ∀ i ∈ rs, wpOp P ops Q i (fun a' w' => S (l.setIfInBounds i true) w' ∧ wpAnyL P ops Q S f (l.setIfInBounds i true) a' w') a w) : wpAnyL P ops Q S (f + 1) l a w :=
  ⟨fun h0 => absurd (hr.symm.trans h0) hne, fun i hi => h i (hr ▸ hi)⟩
/-- An operation that may come up now may be taken first: what it yields it yields as long as C holds, and C holds while it is pending. -/
theorem wpAnyL_first {S : Array Bool → World → Prop} {T : World → Prop} {C : Array Bool → Prop} {i : Nat} {oi : Oper} {v : Value} (hi : ops[i]? = some oi) (hsel : ∀ (j : Nat) (o : Oper) cs b, ops[j]? = some o → o.op ≠ .select cs b)
    (hQ : ∀ c a w, Q (.panic c) (a.put oi.dst v) w → Q (.panic c) a w)
    (hC : ∀ (l : Array Bool) (j : Nat) (oj : Oper), C l → ops[j]? = some oj → j ≠ i → l.getD j true = false → (∀ e ∈ oj.after, Region.binds .any e = true → e.on ≠ i) → C (l.setIfInBounds j true))
    (hST : ∀ l w, C l → S (l.setIfInBounds i true) w → T w) (hSS : ∀ l w, S (l.setIfInBounds i true) w → S l w) :
    ∀ (fuel : Nat) (listed : Array Bool) (a : Act) (w : World),
      (∀ j oj, ops[j]? = some oj → j ≠ i → listed.getD j true = false → (∀ e ∈ oj.after, Region.binds .any e = true → e.on ≠ i) → oi.apart ops oj = true) →
      i ∈ Region.ready .any ops listed → YieldsIf P ops T oi v a → C listed → T w → S (listed.setIfInBounds i true) w →
      wpAnyL P ops Q S fuel (listed.setIfInBounds i true) (a.put oi.dst v) w → wpAnyL P ops Q S (fuel + 1) listed a w := by
  intro fuel
  induction fuel with
  | zero =>
    intro listed a w _ hr hy hc hT hS H
    refine ⟨fun h => (by rw [h] at hr; cases hr), fun j hj => ?_⟩
    by_cases hji : j = i
    · subst hji; exact hy.wpOp hi hT ⟨hS, H⟩
    · have := ready_mono hj hji
      rw [H.1] at this
      cases this
  | succ fuel ih =>
    intro listed a w hfree hr hy hc hT hS H
    refine ⟨fun h => (by rw [h] at hr; cases hr), fun j hj => ?_⟩
    by_cases hji : j = i
    · subst hji; exact hy.wpOp hi hT ⟨hS, H⟩
    · have h1 := H.2 j (ready_mono hj hji)
      obtain ⟨hjun, oj, hoj, hall⟩ := mem_ready.1 hj
      have hnot : ∀ e ∈ oj.after, Region.binds .any e = true → e.on ≠ i := fun e he hb heq => by
        have h1 := hall e he hb
        have h0 := (mem_ready.1 hr).1
        rw [heq] at h1
        rcases Nat.lt_or_ge i listed.size with h' | h'
        · simp [h'] at h0 h1; rw [h0] at h1; cases h1
        · simp [Array.getElem?_eq_none h'] at h1
      have h2 := wpOp_putIf hoj (hfree j oj hoj hji hjun hnot) (fun cs b => hsel i oi cs b hi) (fun cs b => hsel j oj cs b hoj) hQ hy h1
      have hfree' : ∀ k ok, ops[k]? = some ok → k ≠ i → (listed.setIfInBounds j true).getD k true = false →
          (∀ e ∈ ok.after, Region.binds .any e = true → e.on ≠ i) → oi.apart ops ok = true := fun k ok hk hki hun hno => by
        refine hfree k ok hk hki ?_ hno
        by_cases hjk : j = k
        · subst hjk; exact hjun
        · rw [getD_set_ne true hjk] at hun; exact hun
      have hcj := hC listed j oj hc hoj hji hjun hnot
      refine wpOp_mono (fun a' w' h3 => ?_) h2
      obtain ⟨h3, h4, h5⟩ := h3
      rw [Array.setIfInBounds_comm _ _ (Ne.symm hji)] at h4 h5
      exact ⟨hSS _ _ h4, ih (listed.setIfInBounds j true) a' w' hfree' (ready_mono hr (Ne.symm hji)) h3 hcj (hST _ _ hcj h4) h4 h5⟩
end
end Go.Proofs.YtmmbedlegmbppaaDoor.R
/- What a state that is known in part says of a world; that it goes on saying so. -/
namespace Go.Proofs.YtmmbedlegmbppaaDoor.R
open Go Go.RowKit
set_option linter.unusedVariables false
/-- Cells that nobody writes any more. -/
abbrev Fz := Nat → Nat → Prop
def CRel (Φ : Fz) (w : World) : (t : Ty) → t.den → List Value → Prop
  | .int k, x, cs => cs = [.int k x]
  | .bool, x, cs => cs = [.bool x]
  | .str, x, cs => cs = [.string x]
  | .sl _ t, xs, cs => ∃ A c, cs = [.slice A xs.length c] ∧ xs.length ≤ c ∧ c ≤ 9223372036854775807 ∧ ∃ g o, (xs.length = 0 ∨ A = some ⟨g, o, none⟩) ∧
      ∀ (j : Nat) (x : t.den), xs[j]? = some x → ∃ us : List Value, us.length = t.size ∧ CRel Φ w t x us ∧ ∀ (i : Nat) (u : Value), us[i]? = some u → Φ g (o + j * t.size + i) ∧ w.cell? ⟨g, o + j * t.size + i, none⟩ = some u
  | .pair a b, x, cs => ∃ us vs, cs = us ++ vs ∧ CRel Φ w a x.1 us ∧ CRel Φ w b x.2 vs
  | .agg t, x, cs => CRel Φ w t x cs
  | .err, x, cs => ∃ v : Value, cs = [v] ∧ ((x = true ∧ v = .nilIface) ∨ (x = false ∧ ∃ t u, v = .iface t u))
/-- The frozen cells stay, and stay frozen. -/
structure FExt (Φ : Fz) (w : World) (Φ' : Fz) (w' : World) : Prop where
  sub : ∀ b i, Φ b i → Φ' b i
  same : ∀ b i, Φ b i → w'.cell? ⟨b, i, none⟩ = w.cell? ⟨b, i, none⟩
theorem FExt.refl (Φ : Fz) (w : World) : FExt Φ w Φ w := ⟨fun _ _ h => h, fun _ _ _ => rfl⟩
theorem FExt.trans {Φ Φ' Φ'' : Fz} {w w' w'' : World} (h : FExt Φ w Φ' w') (k : FExt Φ' w' Φ'' w'') : FExt Φ w Φ'' w'' :=
  ⟨fun b i hb => k.sub b i (h.sub b i hb), fun b i hb => (k.same b i (h.sub b i hb)).trans (h.same b i hb)⟩
theorem CRel.length {Φ : Fz} {w : World} : ∀ {t : Ty} {x : t.den} {cs : List Value}, CRel Φ w t x cs → cs.length = t.size := by
  intro t
  induction t with
  | int k => intro x cs h; rw [show cs = _ from h]; rfl
  | bool => intro x cs h; rw [show cs = _ from h]; rfl
  | str => intro x cs h; rw [show cs = _ from h]; rfl
  | sl e t ih => intro x cs h; obtain ⟨A, c, h, _⟩ := h; rw [h]; rfl
  | pair a b iha ihb =>
    intro x cs h
    obtain ⟨us, vs, rfl, h1, h2⟩ := h
    rw [List.length_append, iha h1, ihb h2]; rfl
  | agg t ih => intro x cs h; exact ih (x := x) h
  | err => intro x cs h; obtain ⟨v, rfl, _⟩ := h; rfl
theorem CRel.mono {Φ Φ' : Fz} {w w' : World} (hx : FExt Φ w Φ' w') : ∀ {t : Ty} {x : t.den} {cs : List Value}, CRel Φ w t x cs → CRel Φ' w' t x cs := by
  intro t
  induction t with
  | int k => intro x cs h; exact h
  | bool => intro x cs h; exact h
  | str => intro x cs h; exact h
  | sl e t ih =>
    intro x cs h
    obtain ⟨A, c, h1, h2, h3, g, o, h4, h5⟩ := h
    refine ⟨A, c, h1, h2, h3, g, o, h4, fun j y hj => ?_⟩
    obtain ⟨us, hl, hr, hc⟩ := h5 j y hj
    exact ⟨us, hl, ih hr, fun i u hu => ⟨hx.sub _ _ (hc i u hu).1, (hx.same _ _ (hc i u hu).1).trans (hc i u hu).2⟩⟩
  | pair a b iha ihb =>
    intro x cs h
    obtain ⟨us, vs, rfl, h1, h2⟩ := h
    exact ⟨us, vs, rfl, iha h1, ihb h2⟩
  | agg t ih => intro x cs h; exact ih (x := x) h
  | err => intro x cs h; exact h
/-- What is known of the memory beside the values: the frozen cells, where the blocks of our own lie, and the rows that are appended to. -/
structure Gh where
  Φ : Fz
  ρ : Nat → Nat
  γ : Nat → Option (Option Nat)
  nb : Nat
  nt : Nat
  B : Nat
/-- A row of our own. -/
def OwnRel (Φ : Fz) (w : World) (B : Nat) (e : TypeId) (t : Ty) (xs : List t.den) (v : Value) (bo : Option Nat) : Prop :=
  v.ownBlock = bo ∧ ∃ us : List Value, w.ownsRow B e t.size v xs.length us ∧ (∀ (j : Nat) (x : t.den), xs[j]? = some x → CRel Φ w t x ((us.drop (j * t.size)).take t.size)) ∧
    ∀ g, bo = some g → ∀ i, Φ g i ↔ i < xs.length * t.size
/-- A row of our own that is not frozen. -/
def MowRel (Φ : Fz) (w : World) (B : Nat) (e : TypeId) (t : Ty) (xs : List t.den) (v : Value) (bo : Option Nat) : Prop :=
  v.ownBlock = bo ∧ ∃ us : List Value, w.ownsRow B e t.size v xs.length us ∧ (∀ (j : Nat) (x : t.den), xs[j]? = some x → CRel Φ w t x ((us.drop (j * t.size)).take t.size)) ∧
    ∀ g, bo = some g → ∀ i, ¬ Φ g i
/-- A value as a whole. -/
def VRel (Φ : Fz) (w : World) (u : Ty) (x : u.den) (v : Value) : Prop := match u, x with
  | .agg t, x => ∃ us : Array Value, v = .agg us ∧ CRel Φ w t x us.toList
  | u, x => CRel Φ w u x [v]
theorem VRel.mono {Φ Φ' : Fz} {w w' : World} (hx : FExt Φ w Φ' w') {u : Ty} {x : u.den} {v : Value} (h : VRel Φ w u x v) : VRel Φ' w' u x v := by
  cases u with
  | agg t => obtain ⟨us, hv, h⟩ := h; exact ⟨us, hv, h.mono hx⟩
  | _ => exact CRel.mono hx h
/-- What a map holds, in its order. -/
def EntsRel (Φ : Fz) (w : World) (kd vd : Ty) : List (kd.den × vd.den) → List Value → Prop
  | [], us => us = []
  | p :: r, us => ∃ k v rest, us = .agg #[k, v] :: rest ∧ VRel Φ w kd p.1 k ∧ VRel Φ w vd p.2 v ∧ EntsRel Φ w kd vd r rest
theorem EntsRel.mono {Φ Φ' : Fz} {w w' : World} (hx : FExt Φ w Φ' w') {kd vd : Ty} : ∀ {l : List (kd.den × vd.den)} {us : List Value}, EntsRel Φ w kd vd l us → EntsRel Φ' w' kd vd l us
  | [], _, h => h
  | p :: r, _, h => by
    obtain ⟨k, v, rest, h0, h1, h2, h3⟩ := h
    exact ⟨k, v, rest, h0, h1.mono hx, h2.mono hx, h3.mono hx⟩
mutual
def AV.Rel {E : Type} (G : Gh) (w : World) (e : E) : AV E → Value → Prop
  | .undef, _ => True
  | .sym t x, v => CRel G.Φ w t (x e) [v]
  | .cb b, v => v = .bool b
  | .nilsl, v => v = .slice none 0 0
  | .full el t x, v => CRel G.Φ w (.sl el t) (x e) [v] ∧ ∃ A n, v = .slice A n n
  | .own z k el t x, v => k < G.nt ∧ (z = true → x e = [] → v = .slice none 0 0) ∧ ∃ bo, G.γ k = some bo ∧ OwnRel G.Φ w G.B el t (x e) v bo
  | .ptr b o, v => b < G.nb ∧ v = .pointer (some ⟨G.ρ b, o, none⟩)
  | .np b o, v => v = .pointer none ∨ (b < G.nb ∧ v = .pointer (some ⟨G.ρ b, o, none⟩))
  | .nilp, v => v = .pointer none
  | .rp cs, v => ∃ g o, v = .pointer (some ⟨g, o, none⟩) ∧ ∃ us : List Value, AV.Rels G w e cs us ∧ ∀ (i : Nat) (u : Value), us[i]? = some u → G.Φ g (o + i) ∧ w.cell? ⟨g, o + i, none⟩ = some u
  | .ag cs, v => ∃ us, v = .agg us ∧ AV.Rels G w e cs us.toList
  | .tup cs, v => ∃ us, v = .tuple us ∧ AV.Rels G w e cs us.toList
  | .fn f cs, v => ∃ us, v = .func (.func f) #[] us ∧ AV.Rels G w e cs us.toList
  | .nilf, v => v = .nilFunc
  | .mp b, v => b < G.nb ∧ v = .map (some (G.ρ b))
  | .ents kd vd x, v => ∃ us : Array Value, v = .agg us ∧ EntsRel G.Φ w kd vd (x e) us.toList
  | .nili, v => v = .nilIface
  | .mow z k el t x, v => k < G.nt ∧ (z = true → x e = [] → v = .slice none 0 0) ∧ ∃ bo, G.γ k = some bo ∧ MowRel G.Φ w G.B el t (x e) v bo
  | .ep k el t x j o, v => k < G.nt ∧ ∃ g vs, G.γ k = some (some g) ∧ MowRel G.Φ w G.B el t (x e) vs (some g) ∧ 0 ≤ j e ∧ j e < ((x e).length : Int) ∧ v = .pointer (some ⟨g, (j e).toNat * t.size + o, none⟩)
  | .tl k el t x l, v => k < G.nt ∧ ∃ bo vs A c, G.γ k = some bo ∧ MowRel G.Φ w G.B el t (x e) vs bo ∧ 0 ≤ l e ∧ l e ≤ ((x e).length : Int) ∧ v = .slice A ((x e).length - (l e).toNat) c ∧ ((x e).length - (l e).toNat ≠ 0 → ∃ g, bo = some g ∧ A = some ⟨g, (l e).toNat * t.size, none⟩)
  | .capk k n, v => k < G.nt ∧ ∃ bo c, G.γ k = some bo ∧ 0 < n ∧ (bo = none → c = 0) ∧ (∀ g, bo = some g → ∃ cur el, w.heap[g]? = some (.cells cur el (0, 0)) ∧ cur.size = c * n) ∧ v = .int .i64 ((c : Nat) : Int)
  | .bsl b o n, v => b < G.nb ∧ ∃ c, n ≤ c ∧ v = .slice (some ⟨G.ρ b, o, none⟩) n c
def AV.Rels {E : Type} (G : Gh) (w : World) (e : E) : List (AV E) → List Value → Prop
  | [], us => us = []
  | c :: cs, us => ∃ u r, us = u :: r ∧ c.Rel G w e u ∧ AV.Rels G w e cs r
end
/-- One picture of the memory goes on in another one. -/
structure GExt (G : Gh) (w : World) (G' : Gh) (w' : World) : Prop where
  fz : FExt G.Φ w G'.Φ w'
  nb : G.nb ≤ G'.nb
  nt : G.nt ≤ G'.nt
  B : G'.B = G.B
  ρ : ∀ b, b < G.nb → G'.ρ b = G.ρ b
  γ : ∀ k, k < G.nt → ∀ bo, G.γ k = some bo → G'.γ k = some bo ∧ ∀ g, bo = some g → w'.heap[g]? = w.heap[g]? ∧ ∀ i, G'.Φ g i → G.Φ g i
theorem GExt.refl (G : Gh) (w : World) : GExt G w G w := ⟨.refl _ _, Nat.le_refl _, Nat.le_refl _, rfl, fun _ _ => rfl, fun _ _ _ h => ⟨h, fun _ _ => ⟨rfl, fun _ h => h⟩⟩⟩
theorem GExt.trans {G G' G'' : Gh} {w w' w'' : World} (h : GExt G w G' w') (k : GExt G' w' G'' w'') : GExt G w G'' w'' :=
  ⟨h.fz.trans k.fz, Nat.le_trans h.nb k.nb, Nat.le_trans h.nt k.nt, k.B.trans h.B, fun b hb => (k.ρ b (Nat.lt_of_lt_of_le hb h.nb)).trans (h.ρ b hb),
   fun j hj bo hb => by
    obtain ⟨h3, h4⟩ := h.γ j hj bo hb
    obtain ⟨h1, h2⟩ := k.γ j (Nat.lt_of_lt_of_le hj h.nt) bo h3
    exact ⟨h1, fun g hg => ⟨(h2 g hg).1.trans (h4 g hg).1, fun i hi => (h4 g hg).2 i ((h2 g hg).2 i hi)⟩⟩⟩
theorem ownsRow_same {w w' : World} {B : Nat} {e : TypeId} {size n : Nat} {v : Value} {xs : List Value} (h : w.ownsRow B e size v n xs) (hk : ∀ g, v.ownBlock = some g → w'.heap[g]? = w.heap[g]?) : w'.ownsRow B e size v n xs := by
  refine ⟨h.1, ?_⟩
  rcases h.2 with hn | ⟨g, cap, cur, rfl, hb, hg, rest⟩
  · exact .inl hn
  · exact .inr ⟨g, cap, cur, rfl, hb, (hk g rfl).trans hg, rest⟩
theorem OwnRel.mono {Φ Φ' : Fz} {w w' : World} {B : Nat} {e : TypeId} {t : Ty} {xs : List t.den} {v : Value} {bo : Option Nat} (hx : FExt Φ w Φ' w') (hk : ∀ g, bo = some g → w'.heap[g]? = w.heap[g]? ∧ ∀ i, Φ' g i → Φ g i)
    (h : OwnRel Φ w B e t xs v bo) : OwnRel Φ' w' B e t xs v bo := by
  obtain ⟨h1, us, h2, h3, h4⟩ := h
  refine ⟨h1, us, ownsRow_same h2 (fun g hg => (hk g (h1 ▸ hg)).1), fun j x hj => (h3 j x hj).mono hx, fun g hg i => ⟨fun hi => (h4 g hg i).1 ((hk g hg).2 i hi), fun hi => hx.sub _ _ ((h4 g hg i).2 hi)⟩⟩
theorem MowRel.mono {Φ Φ' : Fz} {w w' : World} {B : Nat} {e : TypeId} {t : Ty} {xs : List t.den} {v : Value} {bo : Option Nat} (hx : FExt Φ w Φ' w') (hk : ∀ g, bo = some g → w'.heap[g]? = w.heap[g]? ∧ ∀ i, Φ' g i → Φ g i)
    (h : MowRel Φ w B e t xs v bo) : MowRel Φ' w' B e t xs v bo := by
  obtain ⟨h1, us, h2, h3, h4⟩ := h
  exact ⟨h1, us, ownsRow_same h2 (fun g hg => (hk g (h1 ▸ hg)).1), fun j x hj => (h3 j x hj).mono hx, fun g hg i hi => h4 g hg i ((hk g hg).2 i hi)⟩
mutual
theorem AV.Rel.mono {E : Type} {G G' : Gh} {w w' : World} {e : E} (hx : GExt G w G' w') : ∀ (a : AV E) (v : Value), a.Rel G w e v → a.Rel G' w' e v
  | .undef, _, _ => trivial
  | .sym t x, v, h => CRel.mono hx.fz (show CRel G.Φ w t (x e) [v] from h)
  | .cb b, v, h => h
  | .nilsl, v, h => h
  | .full el t x, v, h => ⟨CRel.mono hx.fz (show CRel G.Φ w (.sl el t) (x e) [v] from h.1), h.2⟩
  | .own z k el t x, v, h => by
    obtain ⟨h1, hz, bo, h2, h3⟩ := h
    exact ⟨Nat.lt_of_lt_of_le h1 hx.nt, hz, bo, (hx.γ k h1 bo h2).1, by rw [hx.B]; exact h3.mono hx.fz (hx.γ k h1 bo h2).2⟩
  | .ptr b o, v, h => ⟨Nat.lt_of_lt_of_le h.1 hx.nb, by rw [hx.ρ b h.1]; exact h.2⟩
  | .np b o, v, h => h.imp id fun h => ⟨Nat.lt_of_lt_of_le h.1 hx.nb, by rw [hx.ρ b h.1]; exact h.2⟩
  | .nilp, v, h => h
  | .rp cs, v, h => by
    obtain ⟨g, o, hv, us, h1, h2⟩ := h
    exact ⟨g, o, hv, us, AV.Rels.mono hx cs us h1, fun i u hu => ⟨hx.fz.sub _ _ (h2 i u hu).1, (hx.fz.same _ _ (h2 i u hu).1).trans (h2 i u hu).2⟩⟩
  | .ag cs, v, h => by
    obtain ⟨us, hv, h1⟩ := h
    exact ⟨us, hv, AV.Rels.mono hx cs _ h1⟩
  | .tup cs, v, h => by
    obtain ⟨us, hv, h1⟩ := h
    exact ⟨us, hv, AV.Rels.mono hx cs _ h1⟩
  | .fn f cs, v, h => by
    obtain ⟨us, hv, h1⟩ := h
    exact ⟨us, hv, AV.Rels.mono hx cs _ h1⟩
  | .nilf, v, h => h
  | .mp b, v, h => ⟨Nat.lt_of_lt_of_le h.1 hx.nb, by rw [hx.ρ b h.1]; exact h.2⟩
  | .ents kd vd x, v, h => by
    obtain ⟨us, hv, h1⟩ := h
    exact ⟨us, hv, h1.mono hx.fz⟩
  | .nili, v, h => h
  | .mow z k el t x, v, h => by
    obtain ⟨h1, hz, bo, h2, h3⟩ := h
    exact ⟨Nat.lt_of_lt_of_le h1 hx.nt, hz, bo, (hx.γ k h1 bo h2).1, by rw [hx.B]; exact h3.mono hx.fz (hx.γ k h1 bo h2).2⟩
  | .ep k el t x j o, v, h => by
    obtain ⟨h1, g, vs, h2, h3, h4⟩ := h
    exact ⟨Nat.lt_of_lt_of_le h1 hx.nt, g, vs, (hx.γ k h1 _ h2).1, by rw [hx.B]; exact h3.mono hx.fz (hx.γ k h1 _ h2).2, h4⟩
  | .tl k el t x l, v, h => by
    obtain ⟨h1, bo, vs, A, c, h2, h3, h4⟩ := h
    exact ⟨Nat.lt_of_lt_of_le h1 hx.nt, bo, vs, A, c, (hx.γ k h1 _ h2).1, by rw [hx.B]; exact h3.mono hx.fz (hx.γ k h1 _ h2).2, h4⟩
  | .capk k n, v, h => by
    obtain ⟨h1, bo, c, h2, h3, h4, h5, h6⟩ := h
    exact ⟨Nat.lt_of_lt_of_le h1 hx.nt, bo, c, (hx.γ k h1 _ h2).1, h3, h4, (fun g hg => by rw [((hx.γ k h1 _ h2).2 g hg).1]; exact h5 g hg), h6⟩
  | .bsl b o n, v, h => ⟨Nat.lt_of_lt_of_le h.1 hx.nb, by rw [hx.ρ b h.1]; exact h.2⟩
theorem AV.Rels.mono {E : Type} {G G' : Gh} {w w' : World} {e : E} (hx : GExt G w G' w') : ∀ (cs : List (AV E)) (us : List Value), AV.Rels G w e cs us → AV.Rels G' w' e cs us
  | [], _, h => h
  | c :: cs, us, h => by
    obtain ⟨u, r, hu, h1, h2⟩ := h
    exact ⟨u, r, hu, AV.Rel.mono hx c u h1, AV.Rels.mono hx cs r h2⟩
end
/-- One picture goes on in another one, but for the row of one token. -/
structure GExtK (k : Nat) (G : Gh) (w : World) (G' : Gh) (w' : World) : Prop where
  fz : FExt G.Φ w G'.Φ w'
  nb : G.nb ≤ G'.nb
  nt : G.nt ≤ G'.nt
  B : G'.B = G.B
  ρ : ∀ b, b < G.nb → G'.ρ b = G.ρ b
  γ : ∀ j, j < G.nt → j ≠ k → ∀ bo, G.γ j = some bo → G'.γ j = some bo ∧ ∀ g, bo = some g → w'.heap[g]? = w.heap[g]? ∧ ∀ i, G'.Φ g i → G.Φ g i
mutual
theorem AV.Rel.kill {E : Type} {k : Nat} {G G' : Gh} {w w' : World} {e : E} (hx : GExtK k G w G' w') : ∀ (a : AV E) (v : Value), a.Rel G w e v → (a.kill k).Rel G' w' e v
  | .undef, _, _ => trivial
  | .sym t x, v, h => CRel.mono hx.fz (show CRel G.Φ w t (x e) [v] from h)
  | .cb b, v, h => h
  | .nilsl, v, h => h
  | .full el t x, v, h => ⟨CRel.mono hx.fz (show CRel G.Φ w (.sl el t) (x e) [v] from h.1), h.2⟩
  | .own z j el t x, v, h => by
    unfold AV.kill
    by_cases hj : j = k
    · rw [if_pos hj]; trivial
    · rw [if_neg hj]
      obtain ⟨h1, hz, bo, h2, h3⟩ := h
      exact ⟨Nat.lt_of_lt_of_le h1 hx.nt, hz, bo, (hx.γ j h1 hj bo h2).1, by rw [hx.B]; exact h3.mono hx.fz (hx.γ j h1 hj bo h2).2⟩
  | .ptr b o, v, h => ⟨Nat.lt_of_lt_of_le h.1 hx.nb, by rw [hx.ρ b h.1]; exact h.2⟩
  | .np b o, v, h => h.imp id fun h => ⟨Nat.lt_of_lt_of_le h.1 hx.nb, by rw [hx.ρ b h.1]; exact h.2⟩
  | .nilp, v, h => h
  | .rp cs, v, h => by
    obtain ⟨g, o, hv, us, h1, h2⟩ := h
    exact ⟨g, o, hv, us, AV.Rels.kill hx cs us h1, fun i u hu => ⟨hx.fz.sub _ _ (h2 i u hu).1, (hx.fz.same _ _ (h2 i u hu).1).trans (h2 i u hu).2⟩⟩
  | .ag cs, v, h => by
    obtain ⟨us, hv, h1⟩ := h
    exact ⟨us, hv, AV.Rels.kill hx cs _ h1⟩
  | .tup cs, v, h => by
    obtain ⟨us, hv, h1⟩ := h
    exact ⟨us, hv, AV.Rels.kill hx cs _ h1⟩
  | .fn f cs, v, h => by
    obtain ⟨us, hv, h1⟩ := h
    exact ⟨us, hv, AV.Rels.kill hx cs _ h1⟩
  | .nilf, v, h => h
  | .mp b, v, h => ⟨Nat.lt_of_lt_of_le h.1 hx.nb, by rw [hx.ρ b h.1]; exact h.2⟩
  | .ents kd vd x, v, h => by
    obtain ⟨us, hv, h1⟩ := h
    exact ⟨us, hv, h1.mono hx.fz⟩
  | .nili, v, h => h
  | .mow z j el t x, v, h => by
    unfold AV.kill
    by_cases hj : j = k
    · rw [if_pos hj]; trivial
    · rw [if_neg hj]
      obtain ⟨h1, hz, bo, h2, h3⟩ := h
      exact ⟨Nat.lt_of_lt_of_le h1 hx.nt, hz, bo, (hx.γ j h1 hj bo h2).1, by rw [hx.B]; exact h3.mono hx.fz (hx.γ j h1 hj bo h2).2⟩
  | .ep j el t x i o, v, h => by
    unfold AV.kill
    by_cases hj : j = k
    · rw [if_pos hj]; trivial
    · rw [if_neg hj]
      obtain ⟨h1, g, vs, h2, h3, h4⟩ := h
      exact ⟨Nat.lt_of_lt_of_le h1 hx.nt, g, vs, (hx.γ j h1 hj _ h2).1, by rw [hx.B]; exact h3.mono hx.fz (hx.γ j h1 hj _ h2).2, h4⟩
  | .tl j el t x l, v, h => by
    unfold AV.kill
    by_cases hj : j = k
    · rw [if_pos hj]; trivial
    · rw [if_neg hj]
      obtain ⟨h1, bo, vs, A, c, h2, h3, h4⟩ := h
      exact ⟨Nat.lt_of_lt_of_le h1 hx.nt, bo, vs, A, c, (hx.γ j h1 hj _ h2).1, by rw [hx.B]; exact h3.mono hx.fz (hx.γ j h1 hj _ h2).2, h4⟩
  | .capk j n, v, h => by
    unfold AV.kill
    by_cases hj : j = k
    · rw [if_pos hj]; trivial
    · rw [if_neg hj]
      obtain ⟨h1, bo, c, h2, h3, h4, h5, h6⟩ := h
      exact ⟨Nat.lt_of_lt_of_le h1 hx.nt, bo, c, (hx.γ j h1 hj _ h2).1, h3, h4, (fun g hg => by rw [((hx.γ j h1 hj _ h2).2 g hg).1]; exact h5 g hg), h6⟩
  | .bsl b o n, v, h => ⟨Nat.lt_of_lt_of_le h.1 hx.nb, by rw [hx.ρ b h.1]; exact h.2⟩
theorem AV.Rels.kill {E : Type} {k : Nat} {G G' : Gh} {w w' : World} {e : E} (hx : GExtK k G w G' w') : ∀ (cs : List (AV E)) (us : List Value), AV.Rels G w e cs us → AV.Rels G' w' e (AV.kills k cs) us
  | [], _, h => h
  | c :: cs, us, h => by
    obtain ⟨u, r, hu, h1, h2⟩ := h
    exact ⟨u, r, hu, AV.Rel.kill hx c u h1, AV.Rels.kill hx cs r h2⟩
end
mutual
theorem AV.Rel.comap {E E' : Type} {G : Gh} {w : World} {e : E'} {g : E' → E} : ∀ (a : AV E) (v : Value), (a.comap g).Rel G w e v ↔ a.Rel G w (g e) v
  | .undef, _ => Iff.rfl
  | .sym t x, v => Iff.rfl
  | .cb b, v => Iff.rfl
  | .nilsl, v => Iff.rfl
  | .full el t x, v => Iff.rfl
  | .own z k el t x, v => Iff.rfl
  | .ptr b o, v => Iff.rfl
  | .np b o, v => Iff.rfl
  | .nilp, v => Iff.rfl
  | .rp cs, v => by
    constructor
    · rintro ⟨g, o, hv, us, h1, h2⟩; exact ⟨g, o, hv, us, (AV.Rels.comap cs us).1 h1, h2⟩
    · rintro ⟨g, o, hv, us, h1, h2⟩; exact ⟨g, o, hv, us, (AV.Rels.comap cs us).2 h1, h2⟩
  | .ag cs, v => by
    constructor
    · rintro ⟨us, hv, h1⟩; exact ⟨us, hv, (AV.Rels.comap cs _).1 h1⟩
    · rintro ⟨us, hv, h1⟩; exact ⟨us, hv, (AV.Rels.comap cs _).2 h1⟩
  | .tup cs, v => by
    constructor
    · rintro ⟨us, hv, h1⟩; exact ⟨us, hv, (AV.Rels.comap cs _).1 h1⟩
    · rintro ⟨us, hv, h1⟩; exact ⟨us, hv, (AV.Rels.comap cs _).2 h1⟩
  | .fn f cs, v => by
    constructor
    · rintro ⟨us, hv, h1⟩; exact ⟨us, hv, (AV.Rels.comap cs _).1 h1⟩
    · rintro ⟨us, hv, h1⟩; exact ⟨us, hv, (AV.Rels.comap cs _).2 h1⟩
  | .nilf, v => Iff.rfl
  | .mp b, v => Iff.rfl
  | .ents kd vd x, v => Iff.rfl
  | .nili, v => Iff.rfl
  | .mow z k el t x, v => Iff.rfl
  | .ep k el t x j o, v => Iff.rfl
  | .tl k el t x l, v => Iff.rfl
  | .capk k n, v => Iff.rfl
  | .bsl b o n, v => Iff.rfl
theorem AV.Rels.comap {E E' : Type} {G : Gh} {w : World} {e : E'} {g : E' → E} : ∀ (cs : List (AV E)) (us : List Value), AV.Rels G w e (AV.comaps g cs) us ↔ AV.Rels G w (g e) cs us
  | [], _ => Iff.rfl
  | c :: cs, us => by
    constructor
    · rintro ⟨u, r, hu, h1, h2⟩; exact ⟨u, r, hu, (AV.Rel.comap c u).1 h1, (AV.Rels.comap cs r).1 h2⟩
    · rintro ⟨u, r, hu, h1, h2⟩; exact ⟨u, r, hu, (AV.Rel.comap c u).2 h1, (AV.Rels.comap cs r).2 h2⟩
end
/-! ### lists of values -/
section
variable {E : Type} {G : Gh} {w : World} {e : E}
theorem AV.Rels.length : ∀ {cs : List (AV E)} {us : List Value}, AV.Rels G w e cs us → us.length = cs.length
  | [], _, h => by rw [show _ = [] from h]; rfl
  | c :: cs, us, h => by obtain ⟨u, r, rfl, _, h2⟩ := h; simp [AV.Rels.length h2]
theorem AV.Rels.nil : AV.Rels G w e ([] : List (AV E)) [] := rfl
theorem AV.Rels.cons {c : AV E} {cs : List (AV E)} {u : Value} {us : List Value} (h : c.Rel G w e u) (k : AV.Rels G w e cs us) : AV.Rels G w e (c :: cs) (u :: us) := ⟨u, us, rfl, h, k⟩
theorem AV.Rels.append : ∀ {cs ds : List (AV E)} {us vs : List Value}, AV.Rels G w e cs us → AV.Rels G w e ds vs → AV.Rels G w e (cs ++ ds) (us ++ vs)
  | [], _, us, _, h, k => by rw [show us = [] from h]; exact k
  | c :: cs, _, us, _, h, k => by obtain ⟨u, r, rfl, h1, h2⟩ := h; exact ⟨u, _, rfl, h1, h2.append k⟩
theorem AV.Rels.split : ∀ {cs ds : List (AV E)} {us : List Value}, AV.Rels G w e (cs ++ ds) us → ∃ a b, us = a ++ b ∧ AV.Rels G w e cs a ∧ AV.Rels G w e ds b
  | [], ds, us, h => ⟨[], us, rfl, rfl, h⟩
  | c :: cs, ds, us, h => by
    obtain ⟨u, r, rfl, h1, h2⟩ := h
    obtain ⟨a, b, rfl, h3, h4⟩ := AV.Rels.split h2
    exact ⟨u :: a, b, rfl, .cons h1 h3, h4⟩
theorem AV.Rels.take : ∀ {cs : List (AV E)} {us : List Value} (n : Nat), AV.Rels G w e cs us → AV.Rels G w e (cs.take n) (us.take n)
  | _, _, 0, _ => by simp; exact rfl
  | [], us, n + 1, h => by rw [show us = [] from h]; exact rfl
  | c :: cs, us, n + 1, h => by obtain ⟨u, r, rfl, h1, h2⟩ := h; exact .cons h1 (h2.take n)
theorem AV.Rels.drop : ∀ {cs : List (AV E)} {us : List Value} (n : Nat), AV.Rels G w e cs us → AV.Rels G w e (cs.drop n) (us.drop n)
  | _, _, 0, h => h
  | [], us, n + 1, h => by rw [show us = [] from h]; exact rfl
  | c :: cs, us, n + 1, h => by obtain ⟨u, r, rfl, h1, h2⟩ := h; exact h2.drop n
theorem AV.Rels.get : ∀ {cs : List (AV E)} {us : List Value} {i : Nat} {c : AV E}, AV.Rels G w e cs us → cs[i]? = some c → ∃ u, us[i]? = some u ∧ c.Rel G w e u
  | c :: cs, us, 0, d, h, hi => by
    obtain ⟨u, r, rfl, h1, h2⟩ := h
    simp at hi; subst hi
    exact ⟨u, rfl, h1⟩
  | c :: cs, us, i + 1, d, h, hi => by
    obtain ⟨u, r, rfl, h1, h2⟩ := h
    simp at hi
    exact h2.get hi
theorem AV.Rels.set : ∀ {cs : List (AV E)} {us : List Value} (i : Nat) {c : AV E} {u : Value}, AV.Rels G w e cs us → c.Rel G w e u → AV.Rels G w e (cs.set i c) (us.set i u)
  | [], us, i, c, u, h, k => by rw [show us = [] from h]; exact rfl
  | d :: cs, us, 0, c, u, h, k => by obtain ⟨v, r, rfl, h1, h2⟩ := h; exact .cons k h2
  | d :: cs, us, i + 1, c, u, h, k => by obtain ⟨v, r, rfl, h1, h2⟩ := h; exact .cons h1 (h2.set i k)
end
end Go.Proofs.YtmmbedlegmbppaaDoor.R
/- To and from plain data: what the compiler's conversions mean. -/
namespace Go.Proofs.YtmmbedlegmbppaaDoor.R
open Go Go.RowKit
set_option linter.unusedVariables false
section
variable {E : Type} {G : Gh} {w : World} {e : E}
theorem castTo_spec {t u : Ty} {x : E → t.den} {y : E → u.den} (h : castTo t u x = some y) : ∃ ht : t = u, y = ht ▸ x := by
  unfold castTo at h
  split at h
  · rename_i ht; exact ⟨ht, (Option.some.inj h).symm⟩
  · cases h
theorem castTo_rel {t u : Ty} {x : E → t.den} {y : E → u.den} (h : castTo t u x = some y) {Φ : Fz} {us : List Value} (hr : CRel Φ w t (x e) us) : CRel Φ w u (y e) us := by
  obtain ⟨ht, hy⟩ := castTo_spec h
  subst ht
  rw [show y = x from hy]
  exact hr
theorem own_cell {B : Nat} {el : TypeId} {size n : Nat} {v : Value} {us : List Value} (h : w.ownsRow B el size v n us) {g : Nat} (hg : v.ownBlock = some g) {i : Nat} {u : Value} (hu : us[i]? = some u) : w.cell? ⟨g, i, none⟩ = some u := by
  have := h.cells hg i u hu
  unfold Addr.add at this
  split at this
  · rename_i h0; subst h0; exact this
  · simpa using this
theorem own_max {B : Nat} {el : TypeId} {size n : Nat} {v : Value} {us : List Value} (h : w.ownsRow B el size v n us) : ∃ A c, v = .slice A n c ∧ n ≤ c ∧ c ≤ 9223372036854775807 ∧ ∀ g, v.ownBlock = some g → A = some ⟨g, 0, none⟩ := by
  rcases h.2 with ⟨rfl, rfl⟩ | ⟨g, cap, cur, rfl, _, _, h1, h2, _⟩
  · exact ⟨none, 0, rfl, Nat.le_refl _, by omega, fun g hg => by simp [Value.ownBlock] at hg⟩
  · refine ⟨_, cap, rfl, h1, by simp only [maxLen] at h2; omega, fun g' hg => by simp [Value.ownBlock] at hg; rw [hg]⟩
theorem own_none {B : Nat} {el : TypeId} {size n : Nat} {v : Value} {us : List Value} (h : w.ownsRow B el size v n us) (hv : v.ownBlock = none) : n = 0 := by
  rcases h.2 with ⟨rfl, rfl⟩ | ⟨g, cap, cur, rfl, _⟩
  · rfl
  · simp [Value.ownBlock] at hv
/-- A row of our own reads as any slice. -/
theorem OwnRel.view {Φ : Fz} {B : Nat} {el : TypeId} {t : Ty} {xs : List t.den} {v : Value} {bo : Option Nat} (h : OwnRel Φ w B el t xs v bo) : CRel Φ w (.sl el t) xs [v] := by
  obtain ⟨h1, us, h2, h3, h4⟩ := h
  obtain ⟨A, c, hv, hc, hm, hA⟩ := own_max h2
  refine ⟨A, c, by rw [hv], hc, hm, ?_⟩
  cases hb : v.ownBlock with
  | none =>
    have h0 := own_none h2 hb
    exact ⟨0, 0, .inl h0, fun j x hj => by rw [List.length_eq_zero_iff.1 h0] at hj; simp at hj⟩
  | some g =>
    refine ⟨g, 0, .inr (hA g hb), fun j x hj => ⟨_, ?_, h3 j x hj, fun i u hu => ?_⟩⟩
    · exact (h3 j x hj).length
    · have hj' := (List.getElem?_eq_some_iff.1 hj).1
      rw [List.getElem?_take] at hu
      split at hu
      · rename_i hi
        rw [List.getElem?_drop] at hu
        have hc := own_cell h2 hb hu
        refine ⟨(h4 g (h1 ▸ hb) _).2 ?_, by rw [show 0 + j * t.size + i = j * t.size + i by omega]; exact hc⟩
        have : (j + 1) * t.size ≤ xs.length * t.size := Nat.mul_le_mul_right _ hj'
        rw [Nat.succ_mul] at this
        omega
      · cases hu
theorem MowRel.view {Φ Φ' : Fz} {B : Nat} {el : TypeId} {t : Ty} {xs : List t.den} {v : Value} {bo : Option Nat} (h : MowRel Φ w B el t xs v bo) (hs : ∀ b i, Φ b i → Φ' b i) (hf : ∀ g, bo = some g → ∀ i, i < xs.length * t.size → Φ' g i) : CRel Φ' w (.sl el t) xs [v] := by
  obtain ⟨h1, us, h2, h3, h4⟩ := h
  have e1 : FExt Φ w (fun b i => (bo = some b ∧ i < xs.length * t.size) ∨ (bo ≠ some b ∧ Φ' b i)) w := ⟨fun b i hb => .inr ⟨fun hh => h4 b hh i hb, hs b i hb⟩, fun _ _ _ => rfl⟩
  have ho : OwnRel (fun b i => (bo = some b ∧ i < xs.length * t.size) ∨ (bo ≠ some b ∧ Φ' b i)) w B el t xs v bo := ⟨h1, us, h2, fun j x hj => (h3 j x hj).mono e1, fun g hg i => ⟨fun hi => hi.elim (·.2) (fun hi => absurd hg hi.1), fun hi => .inl ⟨hg, hi⟩⟩⟩
  exact ho.view.mono ⟨fun b i hb => hb.elim (fun hb => hf b hb.1 i hb.2) (·.2), fun _ _ _ => rfl⟩
theorem AV.to1_rel {u : Ty} : ∀ {a : AV E} {x : E → u.den} {v : Value}, a.to1 u = some x → a.Rel G w e v → CRel G.Φ w u (x e) [v] := by
  intro a x v h hr
  cases a with
  | sym t y => exact castTo_rel h hr
  | cb b => rw [show v = _ from hr]; exact castTo_rel (t := .bool) h rfl
  | nilsl =>
    rw [show v = _ from hr]
    cases u with
    | sl el t =>
      simp only [AV.to1, Option.some.injEq] at h
      subst h
      exact ⟨none, 0, rfl, Nat.le_refl _, by omega, 0, 0, .inl rfl, fun j y hj => by simp at hj⟩
    | _ => simp [AV.to1] at h
  | full el t y => exact castTo_rel (t := .sl el t) h hr.1
  | own z k el t y => obtain ⟨_, _, bo, _, ho⟩ := hr; exact castTo_rel (t := .sl el t) h ho.view
  | nili => rw [show v = _ from hr]; exact castTo_rel (t := .err) h ⟨_, rfl, .inl ⟨rfl, rfl⟩⟩
  | _ => simp [AV.to1] at h
theorem toTy_rel : ∀ {u : Ty} {cs : List (AV E)} {x : E → u.den} {us : List Value}, toTy u cs = some x → AV.Rels G w e cs us → CRel G.Φ w u (x e) us := by
  have base : ∀ {u : Ty} {cs : List (AV E)} {x : E → u.den} {us : List Value}, (match cs with | [c] => c.to1 u | _ => none) = some x → AV.Rels G w e cs us → CRel G.Φ w u (x e) us := by
    intro u cs x us h hr
    match cs, h with
    | [c], h =>
      obtain ⟨v, r, rfl, h1, h2⟩ := hr
      rw [show r = [] from h2]
      exact AV.to1_rel h h1
  intro u
  induction u with
  | pair a b iha ihb =>
    intro cs x us h hr
    simp only [toTy, Option.bind_eq_some_iff] at h
    obtain ⟨y, h1, z, h2, h3⟩ := h
    obtain rfl := Option.some.inj h3
    exact ⟨us.take a.size, us.drop a.size, (List.take_append_drop _ _).symm, iha h1 (hr.take _), ihb h2 (hr.drop _)⟩
  | agg t ih =>
    intro cs x us h hr
    exact ih (x := x) (by simpa only [toTy] using h) hr
  | int k => intro cs x us h hr; exact base (by cases cs with | nil => simp [toTy] at h | cons c r => cases r with | nil => simpa only [toTy] using h | cons _ _ => simp [toTy] at h) hr
  | bool => intro cs x us h hr; exact base (by cases cs with | nil => simp [toTy] at h | cons c r => cases r with | nil => simpa only [toTy] using h | cons _ _ => simp [toTy] at h) hr
  | str => intro cs x us h hr; exact base (by cases cs with | nil => simp [toTy] at h | cons c r => cases r with | nil => simpa only [toTy] using h | cons _ _ => simp [toTy] at h) hr
  | sl el t ih => intro cs x us h hr; exact base (by cases cs with | nil => simp [toTy] at h | cons c r => cases r with | nil => simpa only [toTy] using h | cons _ _ => simp [toTy] at h) hr
  | err => intro cs x us h hr; exact base (by cases cs with | nil => simp [toTy] at h | cons c r => cases r with | nil => simpa only [toTy] using h | cons _ _ => simp [toTy] at h) hr
theorem fromTy_rel : ∀ {u : Ty} {x : E → u.den} {us : List Value}, CRel G.Φ w u (x e) us → AV.Rels G w e (fromTy u x) us := by
  have base : ∀ {u : Ty} {x : E → u.den} {us : List Value}, us.length = 1 → CRel G.Φ w u (x e) us → AV.Rels G w e [.sym u x] us := by
    intro u x us hl h
    match us, hl with
    | [v], _ => exact .cons h .nil
  intro u
  induction u with
  | pair a b iha ihb =>
    intro x us h
    obtain ⟨p, q, rfl, h1, h2⟩ := h
    exact (iha (x := fun e => (x e).1) h1).append (ihb (x := fun e => (x e).2) h2)
  | agg t ih => intro x us h; exact ih (x := x) h
  | int k => intro x us h; exact base (by rw [h.length]; rfl) h
  | bool => intro x us h; exact base (by rw [h.length]; rfl) h
  | str => intro x us h; exact base (by rw [h.length]; rfl) h
  | sl el t ih => intro x us h; exact base (by rw [h.length]; rfl) h
  | err => intro x us h; exact base (by rw [h.length]; rfl) h
theorem AV.to_rel {u : Ty} {a : AV E} {x : E → u.den} {v : Value} (h : a.to u = some x) (hr : a.Rel G w e v) : VRel G.Φ w u (x e) v := by
  cases u with
  | agg t =>
    cases a with
    | ag cs =>
      simp only [AV.to] at h
      split at h
      · obtain ⟨us, hv, h1⟩ := hr
        exact ⟨us, hv, toTy_rel h h1⟩
      · cases h
    | _ => simp [AV.to] at h
  | _ => exact AV.to1_rel (by simpa only [AV.to] using h) hr
theorem AV.of_rel {u : Ty} {x : E → u.den} {v : Value} (h : VRel G.Φ w u (x e) v) : (AV.of u x).Rel G w e v := by
  cases u with
  | agg t => obtain ⟨us, hv, h⟩ := h; exact ⟨us, hv, fromTy_rel (u := t) (x := x) h⟩
  | _ => exact h
/-- Several values. -/
def TupRel (Φ : Fz) (w : World) : (l : List Ty) → Tup l → List Value → Prop
  | [], _, vs => vs = []
  | [t], x, vs => ∃ v, vs = [v] ∧ VRel Φ w t x v
  | t :: u :: r, x, vs => ∃ v vs', vs = v :: vs' ∧ VRel Φ w t x.1 v ∧ TupRel Φ w (u :: r) x.2 vs'
theorem toTup_rel : ∀ {l : List Ty} {cs : List (AV E)} {x : E → Tup l} {us : List Value}, toTup l cs = some x → AV.Rels G w e cs us → TupRel G.Φ w l (x e) us
  | [], cs, x, us, h, hr => by
    cases cs with
    | nil => exact hr
    | cons c cs => simp [toTup] at h
  | [t], cs, x, us, h, hr => by
    match cs, h with
    | [c], h =>
      obtain ⟨v, r, rfl, h1, h2⟩ := hr
      rw [show r = [] from h2]
      exact ⟨v, rfl, AV.to_rel (by simpa only [toTup] using h) h1⟩
    | [], h => simp [toTup] at h
    | _ :: _ :: _, h => simp [toTup] at h
  | t :: u :: l, cs, x, us, h, hr => by
    match cs, h with
    | [], h => simp [toTup] at h
    | c :: cs, h =>
      simp only [toTup, Option.bind_eq_some_iff] at h
      obtain ⟨y, h1, z, h2, h3⟩ := h
      obtain rfl := Option.some.inj h3
      obtain ⟨v, r, rfl, h4, h5⟩ := hr
      exact ⟨v, r, rfl, AV.to_rel (x := y) h1 h4, toTup_rel (x := z) h2 h5⟩
theorem ofTup_rel : ∀ {l : List Ty} {x : E → Tup l} {us : List Value}, TupRel G.Φ w l (x e) us → AV.Rels G w e (ofTup l x) us
  | [], x, us, h => h
  | [t], x, us, h => by obtain ⟨v, rfl, h⟩ := h; exact .cons (AV.of_rel h) .nil
  | t :: u :: l, x, us, h => by
    obtain ⟨v, vs, rfl, h1, h2⟩ := h
    exact .cons (AV.of_rel (x := fun e => (x e).1) h1) (ofTup_rel (x := fun e => (x e).2) h2)
/-! ### one cell -/
theorem CRel.one {Φ : Fz} {t : Ty} {x : t.den} : ∀ {us : List Value}, CRel Φ w t x us → ∀ u ∈ us, u.oneCell' = true := by
  induction t with
  | int k => intro us h; rw [show us = _ from h]; simp [Value.oneCell']
  | bool => intro us h; rw [show us = _ from h]; simp [Value.oneCell']
  | str => intro us h; rw [show us = _ from h]; simp [Value.oneCell']
  | sl el t ih => intro us h; obtain ⟨A, c, h, _⟩ := h; rw [h]; simp [Value.oneCell']
  | pair a b iha ihb =>
    intro us h
    obtain ⟨p, q, rfl, h1, h2⟩ := h
    intro u hu
    rcases List.mem_append.1 hu with hu | hu
    · exact iha h1 u hu
    · exact ihb h2 u hu
  | agg t ih => intro us h; exact ih (x := x) h
  | err => intro us h; obtain ⟨v, rfl, h⟩ := h; rcases h with ⟨_, rfl⟩ | ⟨_, t, u, rfl⟩ <;> simp [Value.oneCell']
theorem AV.Rel.one {a : AV E} {v : Value} (ho : a.one = true) (h : a.Rel G w e v) : v.oneCell' = true := by
  cases a with
  | undef => simp [AV.one] at ho
  | ag cs => simp [AV.one] at ho
  | tup cs => simp [AV.one] at ho
  | sym t x => exact CRel.one (show CRel G.Φ w t (x e) [v] from h) v (by simp)
  | full el t x => exact CRel.one (show CRel G.Φ w (.sl el t) (x e) [v] from h.1) v (by simp)
  | own z k el t x => obtain ⟨_, _, bo, _, ho⟩ := h; exact CRel.one ho.view v (by simp)
  | cb b => rw [show v = _ from h]; rfl
  | nilsl => rw [show v = _ from h]; rfl
  | ptr b o => rw [h.2]; rfl
  | np b o => rcases h with h | h; · rw [h]; rfl
              · rw [h.2]; rfl
  | nilp => rw [show v = _ from h]; rfl
  | rp cs => obtain ⟨g, o, rfl, _⟩ := h; rfl
  | fn f cs => obtain ⟨us, rfl, _⟩ := h; rfl
  | nilf => rw [show v = _ from h]; rfl
  | mp b => rw [h.2]; rfl
  | ents kd vd x => simp [AV.one] at ho
  | nili => rw [show v = _ from h]; rfl
  | mow z k el t x =>
    obtain ⟨_, _, bo, _, _, us, hrow, _⟩ := h
    rcases hrow.2 with ⟨rfl, _⟩ | ⟨g, cap, cur, rfl, _⟩ <;> rfl
  | ep k el t x j o => obtain ⟨_, g, vs, _, _, _, _, rfl⟩ := h; rfl
  | tl k el t x l => obtain ⟨_, bo, vs, A, c, _, _, _, _, rfl, _⟩ := h; rfl
  | capk k n => obtain ⟨_, bo, c, _, _, _, _, rfl⟩ := h; rfl
  | bsl b o n => obtain ⟨_, c, _, rfl⟩ := h; rfl
theorem AV.Rels.one : ∀ {cs : List (AV E)} {us : List Value}, cs.all AV.one = true → AV.Rels G w e cs us → ∀ u ∈ us, u.oneCell' = true
  | [], us, _, h, u, hu => by rw [show us = [] from h] at hu; cases hu
  | c :: cs, us, ho, h, u, hu => by
    obtain ⟨v, r, rfl, h1, h2⟩ := h
    rw [List.all_cons, Bool.and_eq_true] at ho
    rcases List.mem_cons.1 hu with rfl | hu
    · exact h1.one ho.1
    · exact AV.Rels.one ho.2 h2 u hu
theorem cells_one {v : Value} (h : v.oneCell' = true) : v.cells = #[v] := by cases v <;> simp_all [Value.cells, Value.oneCell']
/-- The cells of a value, told. -/
theorem AV.cells_rel {a : AV E} {cs : List (AV E)} {v : Value} (h : a.cells = some cs) (hr : a.Rel G w e v) : AV.Rels G w e cs v.cells.toList ∧ ∀ u ∈ v.cells.toList, u.oneCell' = true := by
  have one : ∀ (b : AV E), b.one = true → b.Rel G w e v → some [b] = some cs → AV.Rels G w e cs v.cells.toList ∧ ∀ u ∈ v.cells.toList, u.oneCell' = true := by
    intro b hb hbr hs
    obtain rfl := Option.some.inj hs
    have ho := hbr.one hb
    rw [cells_one ho]
    exact ⟨.cons hbr .nil, fun u hu => by simp at hu; rw [hu]; exact ho⟩
  cases a with
  | ag ds =>
    simp only [AV.cells] at h
    split at h
    · rename_i ha
      obtain rfl := Option.some.inj h
      obtain ⟨us, rfl, h1⟩ := hr
      exact ⟨h1, h1.one ha⟩
    · cases h
  | undef => simp [AV.cells, AV.one] at h
  | tup ds => simp [AV.cells, AV.one] at h
  | ents kd vd x => simp [AV.cells, AV.one] at h
  | _ => exact one _ rfl hr (by simpa only [AV.cells, AV.one, if_true] using h)
end
end Go.Proofs.YtmmbedlegmbppaaDoor.R
/- The operations that leave the world alone: arithmetic, comparisons, texts. -/
namespace Go.Proofs.YtmmbedlegmbppaaDoor.R
open Go Go.RowKit
set_option linter.unusedVariables false
set_option linter.unusedSimpArgs false
/-- A world in which the frozen cells, and the blocks of our own, are as they are here. -/
structure Same (G : Gh) (n : Nat → Prop) (w w' : World) : Prop where
  cell : ∀ b i, G.Φ b i → w'.cell? ⟨b, i, none⟩ = w.cell? ⟨b, i, none⟩
  blk : ∀ b, n b → w'.heap[G.ρ b]? = w.heap[G.ρ b]?
theorem Same.refl (G : Gh) (n : Nat → Prop) (w : World) : Same G n w w := ⟨fun _ _ _ => rfl, fun _ _ => rfl⟩
variable {E : Type} {G : Gh} {w : World} {e : E} {P : Program}
/-- The operation yields this, in whatever world of that kind. -/
def Live {E : Type} (bs : List (Blk E)) (b : Nat) : Prop := ∃ el cs, bs[b]? = some (.cells el cs)
def Yld (P : Program) (G : Gh) (n : Nat → Prop) (w : World) (r : Sem Next) (v : Value) : Prop := ∀ w', Same G n w w' → r.run P w' = .ok (.value v) w'
theorem Yld.of {n : Nat → Prop} {r : Sem Next} {v : Value} (h : ∀ w', r.run P w' = .ok (.value v) w') : Yld P G n w r v := fun w' _ => h w'
theorem eqGuard_int {op : BinOp} {t : TypeId} {x y : Operand} {k k' : IntKind} {m n : Int} {w : World} : (eqGuard op t x y (.int k m) (.int k' n)).run P w = .ok () w := by
  unfold eqGuard
  cases op <;> simp [Sem.run]
theorem eqGuard_str {op : BinOp} {t : TypeId} {x y : Operand} {m n : ByteArray} {w : World} : (eqGuard op t x y (.string m) (.string n)).run P w = .ok () w := by
  unfold eqGuard
  cases op <;> simp [Sem.run]
theorem eqGuard_bool {op : BinOp} {t : TypeId} {x y : Operand} {m n : Bool} {w : World} : (eqGuard op t x y (.bool m) (.bool n)).run P w = .ok () w := by
  unfold eqGuard
  cases op <;> simp [Sem.run]
theorem eqGuard_slice {op : BinOp} {t : TypeId} {x y : Operand} {A B : Option Addr} {n c m d : Nat} {w : World} : (eqGuard op t x y (.slice A n c) (.slice B m d)).run P w = .ok () w := by
  unfold eqGuard
  cases op <;> simp
def binRun (op : BinOp) (t : TypeId) (x y : Operand) (u v : Value) : Sem Next := do
  let r ← (do eqGuard op t x y u v; Go.binOp op t u v)
  pure (.value r)
theorem binRun_of {op : BinOp} {t : TypeId} {x y : Operand} {u v r : Value} {w : World} (hg : (eqGuard op t x y u v).run P w = .ok () w) (hb : (Go.binOp op t u v).run P w = .ok r w) : (binRun op t x y u v).run P w = .ok (.value r) w := by
  unfold binRun
  simp only [Sem.run_bind, hg, hb, Result.andThen_ok, Sem.run_pure]
/-- whole numbers -/
theorem binInt_run {op : BinOp} {k : IntKind} {x y : E → Int} {c : Option (E → Bool)} {av : AV E} {t : TypeId} (h : binInt op k x y = some (c, av)) (hc : ∀ f, c = some f → f e = true) (hop : op ≠ .shl ∧ op ≠ .shr) :
    ∃ v, av.Rel G w e v ∧ ∀ w', (Go.binOp op t (.int k (x e)) (.int k (y e))).run P w' = .ok v w' := by
  cases op <;> simp only [binInt, ok, okIf, Option.some.injEq, Prod.mk.injEq, reduceCtorEq] at h <;> first | (exact absurd rfl hop.1) | (exact absurd rfl hop.2) | skip
  all_goals (obtain ⟨rfl, rfl⟩ := h)
  case quo =>
    have := hc _ rfl
    have hy : ¬ y e = 0 := by simpa [neI] using this
    exact ⟨_, rfl, fun w' => by simp [Go.binOp, Op.intDiv, hy, Sem.run, quoI]⟩
  case rem =>
    have := hc _ rfl
    have hy : ¬ y e = 0 := by simpa [neI] using this
    exact ⟨_, rfl, fun w' => by simp [Go.binOp, Op.intDiv, hy, Sem.run, remI]⟩
  all_goals first
    | exact ⟨_, rfl, fun w' => by simp [Go.binOp, Op.intArith, Op.intBits, Op.intCmp, Sem.run, addI, subI, mulI, bits, eqI, neI, ltI, leI]⟩
theorem shift_run {op : BinOp} {k : IntKind} {x y : E → Int} {c : Option (E → Bool)} {av : AV E} {k' : IntKind} {t : TypeId} (h : shift op k x y = some (c, av)) (hc : ∀ f, c = some f → f e = true) :
    ∃ v, av.Rel G w e v ∧ ∀ w', (Go.binOp op t (.int k (x e)) (.int k' (y e))).run P w' = .ok v w' := by
  cases op <;> simp only [shift, okIf, Option.some.injEq, Prod.mk.injEq, reduceCtorEq] at h
  all_goals
    obtain ⟨rfl, rfl⟩ := h
    have := hc _ rfl
    have hy : ¬ y e < 0 := by simp [leI] at this; omega
    exact ⟨_, rfl, fun w' => by simp [Go.binOp, Op.shift, hy, Sem.run, shlI, shrI]⟩
theorem bless_eq : ∀ x y : List UInt8, Op.bytesLess x y = bless x y
  | _, [] => by unfold Op.bytesLess bless; rfl
  | [], _ :: _ => rfl
  | a :: x, b :: y => by unfold Op.bytesLess bless; rw [bless_eq x y]
theorem binStr_run {op : BinOp} {x y : E → ByteArray} {c : Option (E → Bool)} {av : AV E} {t : TypeId} (h : binStr op x y = some (c, av)) (hc : ∀ f, c = some f → f e = true) :
    ∃ v, av.Rel G w e v ∧ ∀ w', (Go.binOp op t (.string (x e)) (.string (y e))).run P w' = .ok v w' := by
  cases op <;> simp only [binStr, ok, okIf, Option.some.injEq, Prod.mk.injEq, reduceCtorEq] at h
  all_goals (obtain ⟨rfl, rfl⟩ := h)
  case add =>
    have := hc _ rfl
    simp only [fitsS, decide_eq_true_eq] at this
    have hn : ¬ (((x e).size + (y e).size : Nat) : Int) > IntKind.i64.max := by
      have : IntKind.i64.max = 9223372036854775807 := by decide
      omega
    exact ⟨_, rfl, fun w' => by simp only [Go.binOp, Op.stringOp, if_neg hn]; rfl⟩
  all_goals exact ⟨_, rfl, fun w' => by simp only [Go.binOp, Op.stringOp, eqS, ltS, notB, orB, bless_eq]; rfl⟩
theorem un_run {op : UnOp} {a : AV E} {c : Option (E → Bool)} {av : AV E} {v : Value} (h : unOut op a = some (c, av)) (hr : a.Rel G w e v) :
    ∃ r, av.Rel G w e r ∧ ∀ w', (Op.unary op v).run P w' = .ok r w' := by
  unfold unOut at h
  split at h <;> simp only [ok, Option.some.injEq, Prod.mk.injEq, reduceCtorEq] at h
  all_goals
    obtain ⟨rfl, rfl⟩ := h
    have hv : v = _ := (by first | exact (List.cons.inj hr).1 | exact hr)
    subst hv
    exact ⟨_, rfl, fun w' => by simp [Op.unary, Op.intArith, Op.intBits, Sem.run, subI, bits, notB]⟩
end Go.Proofs.YtmmbedlegmbppaaDoor.R
/- The operations that leave the world alone: slices, texts, structs. -/
namespace Go.Proofs.YtmmbedlegmbppaaDoor.R
open Go Go.RowKit
set_option linter.unusedVariables false
set_option linter.unusedSimpArgs false
variable {E : Type} {G : Gh} {w : World} {e : E} {P : Program} {n : Nat → Prop}
theorem inB_iff {i n : Int} : inB i n = true ↔ 0 ≤ i ∧ i < n := by simp [inB]
theorem boundB_iff {i n : Int} : boundB i n = true ↔ 0 ≤ i ∧ i ≤ n := by simp [boundB]
theorem andB_iff {x y : Bool} : andB x y = true ↔ x = true ∧ y = true := by simp [andB]
theorem isStrT_spec {t : TypeId} (h : isStrT P t = true) : P.underlying t = some .string := by
  unfold isStrT at h
  split at h
  · assumption
  · cases h
theorem isSl_spec {t : TypeId} (h : isSl P t = true) : ∃ el, P.underlying t = some (.slice el) := by
  unfold isSl at h
  split at h
  · exact ⟨_, by assumption⟩
  · cases h
theorem size_run {t : TypeId} {k : Nat} (h : sizeT P t = k) (hi : (P.info? t).isSome) (w : World) : (sizeOf t).run P w = .ok k w := by
  obtain ⟨i, hi⟩ := Option.isSome_iff_exists.1 hi
  unfold sizeT Program.cellsOf at h
  rw [hi] at h
  simp at h
  simp [sizeOf, typeInfo, hi, h]
theorem isSlT_spec {t : TypeId} {k : Nat} (h : isSlT P t k = true) : ∃ el, P.underlying t = some (.slice el) ∧ ∀ w, (sizeOf el).run P w = .ok k w := by
  unfold isSlT at h
  split at h
  · rename_i el hu
    simp only [Bool.and_eq_true, beq_iff_eq] at h
    exact ⟨el, hu, fun w => size_run h.1 h.2 w⟩
  · cases h
theorem list_rel {a : AV E} {l : LV E} {v : Value} (h : a.list? = some l) (hr : a.Rel G w e v) : CRel G.Φ w (.sl l.e l.t) (l.x e) [v] := by
  cases a with
  | sym t x =>
    cases t with
    | sl el u => simp only [AV.list?, Option.some.injEq] at h; subst h; exact hr
    | _ => simp [AV.list?] at h
  | full el t x => simp only [AV.list?, Option.some.injEq] at h; subst h; exact hr.1
  | own z k el t x => simp only [AV.list?, Option.some.injEq] at h; subst h; obtain ⟨_, _, bo, _, ho⟩ := hr; exact ho.view
  | _ => simp [AV.list?] at h
theorem int_rel {a : AV E} {j : E → Int} {v : Value} (h : a.int? = some j) (hr : a.Rel G w e v) : ∃ k, v = .int k (j e) := by
  cases a with
  | sym t x =>
    cases t with
    | int k => simp only [AV.int?, Option.some.injEq] at h; subst h; exact ⟨k, (List.cons.inj hr).1⟩
    | _ => simp [AV.int?] at h
  | _ => simp [AV.int?] at h
/-- lengths -/
theorem len_run {t ty : TypeId} {a : AV E} {c : Option (E → Bool)} {av : AV E} {v : Value} (h : lenOut P t a = some (c, av)) (hr : a.Rel G w e v) :
    ∃ r, av.Rel G w e r ∧ ∀ w', (Builtin.len_ #[t] ty #[v]).run P w' = .ok r w' := by
  have slice : ∀ {el : TypeId} {A : Option Addr} {m k : Nat}, P.underlying t = some (.slice el) → ∀ w', (Builtin.len_ #[t] ty #[.slice A m k]).run P w' = .ok (.int .i64 m) w' := by
    intro el A m k hu w'
    simp [Builtin.len_, run_underlying hu, goInt]
  unfold lenOut at h
  split at h
  · split at h
    · rename_i x hs
      simp only [ok, Option.some.injEq, Prod.mk.injEq] at h
      obtain ⟨_, rfl⟩ := h
      obtain rfl : v = _ := (List.cons.inj hr).1
      exact ⟨_, rfl, fun w' => by simp [Builtin.len_, run_underlying (isStrT_spec hs), goInt, lenS]⟩
    · cases h
  · split at h
    · rename_i hs
      simp only [ok, Option.some.injEq, Prod.mk.injEq] at h
      obtain ⟨_, rfl⟩ := h
      obtain ⟨el, hu⟩ := isSl_spec hs
      obtain rfl : v = _ := hr
      exact ⟨_, rfl, slice hu⟩
    · cases h
  · split at h
    · rename_i z k el' t' x hs
      simp only [ok, Option.some.injEq, Prod.mk.injEq] at h
      obtain ⟨_, rfl⟩ := h
      obtain ⟨el, hu⟩ := isSl_spec hs
      obtain ⟨_, _, bo, _, _, us, hrow, _⟩ := hr
      obtain ⟨A, c', hv, _⟩ := own_max hrow
      subst hv
      exact ⟨_, rfl, slice hu⟩
    · cases h
  · split at h
    · rename_i b' p' n' hs
      simp only [ok, Option.some.injEq, Prod.mk.injEq] at h
      obtain ⟨_, rfl⟩ := h
      obtain ⟨el, hu⟩ := isSl_spec hs
      obtain ⟨_, c', _, rfl⟩ := hr
      exact ⟨_, rfl, slice hu⟩
    · cases h
  · rw [Option.bind_eq_some_iff] at h
    obtain ⟨l, hl, h⟩ := h
    split at h
    · rename_i hs
      simp only [ok, Option.some.injEq, Prod.mk.injEq] at h
      obtain ⟨_, rfl⟩ := h
      obtain ⟨el, hu⟩ := isSl_spec hs
      obtain ⟨A, c', hv, _⟩ := list_rel hl hr
      obtain rfl : v = _ := (List.cons.inj hv).1
      exact ⟨_, rfl, slice hu⟩
    · cases h
/-- the bytes of a text -/
theorem index_str {t : TypeId} {x : ByteArray} {k : IntKind} {i : Int} (hu : P.underlying t = some .string) (hi : inB i (lenS x) = true) (w' : World) :
    (Instr.index t (.string x) (.int k i)).run P w' = .ok (.int .u8 (btI x i)) w' := by
  rw [inB_iff] at hi
  unfold lenS at hi
  have hlt : i.toNat < x.size := by omega
  have hg : (if 0 ≤ i then x[i.toNat]? else none) = some (x[i.toNat]'hlt) := by rw [if_pos hi.1]; exact getElem?_pos x i.toNat hlt
  simp [Instr.index, asIntOf, run_underlying hu, hi.1, btI, hlt]
theorem add_cell {o m : Nat} {g : Nat} : (⟨g, o, none⟩ : Addr).add m = ⟨g, o + m, none⟩ := by
  unfold Addr.add
  split
  · rename_i h; rw [h]; rfl
  · rfl
/-- the address of an element -/
theorem indexAddr_run {t : TypeId} {a i : AV E} {c : Option (E → Bool)} {av : AV E} {v u : Value} {o : Operand} (h : indexAddrOut P t a i o = some (c, av)) (hc : ∀ f, c = some f → f e = true) (hr : a.Rel G w e v) (hi : i.Rel G w e u) (ho : ∀ n, constI o = some n → ∃ k, u = .int k n) :
    ∃ r, av.Rel G w e r ∧ ∀ w', (Instr.indexAt t v u).run P w' = .ok r w' := by
  unfold indexAddrOut at h
  split at h
  · rename_i b p
    simp only [Option.bind_eq_some_iff] at h
    obtain ⟨n, hn, m, hm, h⟩ := h
    obtain ⟨rfl, rfl⟩ : none = c ∧ AV.ptr b (p + n * m) = av := by simpa only [ok, Option.some.injEq, Prod.mk.injEq] using h
    obtain ⟨k, rfl⟩ := ho n hn
    obtain ⟨hb, rfl⟩ := hr
    unfold elAt at hm
    split at hm
    · rename_i len el hu
      split at hm
      · rename_i hlt
        simp only [Bool.and_eq_true, decide_eq_true_eq] at hlt
        obtain rfl := Option.some.inj hm
        refine ⟨.pointer (some ⟨G.ρ b, p + n * sizeT P el, none⟩), ⟨hb, rfl⟩, fun w' => ?_⟩
        have h1 : (n : Int) < (len : Int) := by omega
        simp [Instr.indexAt, asIntOf, Instr.sureAddr, run_underlying hu, hlt.1, h1, size_run rfl hlt.2, add_cell]
      · cases hm
    · cases hm
  split at h
  · rename_i l j hl hj
    split at h
    · cases h
    · rename_i hs
      simp only [okIf, Option.some.injEq, Prod.mk.injEq] at h
      obtain ⟨rfl, rfl⟩ := h
      have hb := hc _ rfl
      rw [inB_iff] at hb
      unfold lenL at hb
      obtain ⟨el, hu, hsz⟩ := isSlT_spec (by simpa using hs)
      obtain ⟨A, c', hv, _, _, g, o, hA, hcell⟩ := list_rel hl hr
      obtain rfl : v = _ := (List.cons.inj hv).1
      obtain ⟨k, rfl⟩ := int_rel hj hi
      have hlt : (j e).toNat < (l.x e).length := by omega
      have hA' : A = some ⟨g, o, none⟩ := hA.resolve_left (by omega)
      subst hA'
      obtain ⟨us, hul, hur, huc⟩ := hcell (j e).toNat _ (List.getElem?_eq_getElem hlt)
      refine ⟨.pointer (some ⟨g, o + (j e).toNat * l.t.size, none⟩), ⟨g, _, rfl, us, fromTy_rel ?_, huc⟩, fun w' => ?_⟩
      · have : elT l.t (l.x e) (j e) = (l.x e)[(j e).toNat] := by unfold elT; rw [List.getD_eq_getElem?_getD, List.getElem?_eq_getElem hlt]; rfl
        show CRel G.Φ w l.t (elT l.t (l.x e) (j e)) us
        rw [this]; exact hur
      · simp [Instr.indexAt, asIntOf, run_underlying hu, hb.1, hb.2, hsz, add_cell]
  · cases h
/-- parts of texts and slices -/
theorem lo_run {lo : Option (AV E)} {vo : Option Value} {l : E → Int} (h : loI lo = some l) (hr : ∀ x, lo = some x → ∃ v, vo = some v ∧ x.Rel G w e v) (h0 : lo = none → vo = none) :
    (vo = none ∧ l e = 0) ∨ ∃ k, vo = some (.int k (l e)) := by
  cases lo with
  | none => simp only [loI, Option.some.injEq] at h; subst h; exact .inl ⟨h0 rfl, rfl⟩
  | some x =>
    obtain ⟨v, hv, hx⟩ := hr x rfl
    obtain ⟨k, rfl⟩ := int_rel (by simpa only [loI] using h) hx
    exact .inr ⟨k, hv⟩
theorem hi_run {m : E → Int} {hi : Option (AV E)} {vo : Option Value} {l : E → Int} (h : hiI m hi = some l) (hr : ∀ x, hi = some x → ∃ v, vo = some v ∧ x.Rel G w e v) (h0 : hi = none → vo = none) :
    (vo = none ∧ l e = m e) ∨ ∃ k, vo = some (.int k (l e)) := by
  cases hi with
  | none => simp only [hiI, Option.some.injEq] at h; subst h; exact .inl ⟨h0 rfl, rfl⟩
  | some x =>
    obtain ⟨v, hv, hx⟩ := hr x rfl
    obtain ⟨k, rfl⟩ := int_rel (by simpa only [hiI] using h) hx
    exact .inr ⟨k, hv⟩
theorem bound_run {k : IntKind} {i : Int} {y : Nat} {cd : BoundsCode} (h : boundB i (y : Int) = true) (w' : World) : (Instr.sliceBound (.int k i) y cd).run P w' = .ok i.toNat w' := by
  rw [boundB_iff] at h
  simp [Instr.sliceBound, asIntOf, h]
/-- What 'sliceBounds' tells, without a third bound. -/
theorem bounds_run {sl : Bool} {len cap : Nat} {lv hv : Option Value} {l h : Int} (hl : (lv = none ∧ l = 0) ∨ ∃ k, lv = some (.int k l)) (hh : (hv = none ∧ h = (len : Int)) ∨ ∃ k, hv = some (.int k h))
    (h1 : boundB h (len : Int) = true) (h2 : boundB l h = true) (hcap : len ≤ cap) (w' : World) : (Instr.sliceBounds sl len cap lv hv none).run P w' = .ok (l.toNat, h.toNat, cap) w' := by
  have b1 := h1
  have b2 := h2
  rw [boundB_iff] at b1 b2
  have h1' : boundB h (cap : Int) = true := by rw [boundB_iff]; omega
  have h2' : boundB l (h.toNat : Int) = true := by rw [boundB_iff]; omega
  rcases hl with ⟨rfl, rfl⟩ | ⟨k, rfl⟩ <;> rcases hh with ⟨rfl, rfl⟩ | ⟨k', rfl⟩
  · simp [Instr.sliceBounds]
  · simp [Instr.sliceBounds, bound_run h1']
  · simp [Instr.sliceBounds, bound_run h2]
  · simp [Instr.sliceBounds, bound_run h1', bound_run h2']
theorem cut_rel {el : TypeId} {t : Ty} {xs : List t.den} {A : Option Addr} {c m : Nat} {l h : Int} (hr : CRel G.Φ w (.sl el t) xs [.slice A xs.length c]) (h1 : boundB h (xs.length : Int) = true) (h2 : boundB l h = true) (hm : h.toNat ≤ m) (hmc : m ≤ c) :
    CRel G.Φ w (.sl el t) (cutL xs l h) [.slice (if m = l.toNat then A else A.map (·.add (l.toNat * t.size))) (h.toNat - l.toNat) (m - l.toNat)] := by
  rw [boundB_iff] at h1 h2
  obtain ⟨A', c', hv, hc, hmx, g, o, hA, hcell⟩ := hr
  have hv' := (List.cons.inj hv).1
  simp only [Value.slice.injEq] at hv'
  obtain ⟨rfl, _, rfl⟩ := hv'
  have hlen : (cutL xs l h).length = h.toNat - l.toNat := by unfold cutL; rw [List.length_drop, List.length_take]; omega
  refine ⟨_, _, by rw [hlen], by rw [hlen]; omega, by omega, g, o + l.toNat * t.size, ?_, fun j x hj => ?_⟩
  · by_cases h0 : h.toNat - l.toNat = 0
    · exact .inl (by rw [hlen]; exact h0)
    · have hA' := hA.resolve_left (by omega)
      subst hA'
      exact .inr (by rw [if_neg (by omega)]; simp [add_cell])
  · have hj' : xs[l.toNat + j]? = some x := by
      unfold cutL at hj
      rw [List.getElem?_drop, List.getElem?_take] at hj
      split at hj
      · exact hj
      · cases hj
    obtain ⟨us, hul, hur, huc⟩ := hcell _ _ hj'
    refine ⟨us, hul, hur, fun i u hu => ?_⟩
    have := huc i u hu
    rw [show o + (l.toNat + j) * t.size + i = o + l.toNat * t.size + j * t.size + i by rw [Nat.add_mul]; omega] at this
    exact this
theorem slice_run {t : TypeId} {a : AV E} {lo hi mx : Option (AV E)} {vl vh vm : Option Value} {c : Option (E → Bool)} {av : AV E} {v : Value} (h : sliceOut P t a lo hi mx = some (c, av)) (hc : ∀ f, c = some f → f e = true) (hr : a.Rel G w e v)
    (hl : ∀ x, lo = some x → ∃ v, vl = some v ∧ x.Rel G w e v) (hl0 : lo = none → vl = none) (hh : ∀ x, hi = some x → ∃ v, vh = some v ∧ x.Rel G w e v) (hh0 : hi = none → vh = none) (hm : ∀ x, mx = some x → ∃ v, vm = some v ∧ x.Rel G w e v) (hm0 : mx = none → vm = none) :
    ∃ r, av.Rel G w e r ∧ ∀ w', (Instr.sliceAt t v vl vh vm).run P w' = .ok r w' := by
  unfold sliceOut at h
  split at h
  · -- a text
    rename_i x
    split at h
    · cases h
    · rename_i hs
      simp only [Option.bind_eq_some_iff] at h
      obtain ⟨l, h1, hi', h2, h⟩ := h
      simp only [okIf, Option.some.injEq, Prod.mk.injEq] at h
      obtain ⟨rfl, rfl⟩ := h
      have hb := hc _ rfl
      rw [andB_iff] at hb
      have hb0 : lenS (x e) = ((x e).size : Int) := rfl
      rw [hb0] at hb
      obtain rfl : v = _ := (List.cons.inj hr).1
      obtain rfl := hm0 rfl
      have hu := isStrT_spec (P := P) (t := t) (by simpa using hs)
      refine ⟨_, rfl, fun w' => ?_⟩
      have := bounds_run (P := P) (sl := false) (lo_run h1 hl hl0) (hi_run (e := e) (m := fun e => lenS (x e)) h2 hh hh0) hb.1 hb.2 (Nat.le_refl _) w'
      simp [Instr.sliceAt, Instr.slice, run_underlying hu, this, cutS]
  · -- a slice
    rw [Option.bind_eq_some_iff] at h
    obtain ⟨lv, hlv, h⟩ := h
    split at h
    · cases h
    · rename_i hs
      simp only [Option.bind_eq_some_iff] at h
      obtain ⟨l, h1, hi', h2, h⟩ := h
      simp only [okIf, Option.some.injEq, Prod.mk.injEq] at h
      obtain ⟨rfl, rfl⟩ := h
      have hb := hc _ rfl
      rw [andB_iff] at hb
      have hb0 : lenL (lv.x e) = ((lv.x e).length : Int) := rfl
      rw [hb0] at hb
      obtain rfl := hm0 rfl
      obtain ⟨el, hu, hsz⟩ := isSlT_spec (P := P) (t := t) (by simpa using hs)
      have hlr := list_rel hlv hr
      obtain ⟨A, cp, hv, hcp, _⟩ := id hlr
      obtain rfl : v = _ := (List.cons.inj hv).1
      have hb1 := hb.1
      rw [boundB_iff] at hb1
      refine ⟨_, cut_rel hlr hb.1 hb.2 (m := cp) (by omega) (Nat.le_refl _), fun w' => ?_⟩
      have := bounds_run (P := P) (sl := true) (lo_run h1 hl hl0) (hi_run (e := e) (m := fun e => lenL (lv.x e)) h2 hh hh0) hb.1 hb.2 hcp w'
      simp [Instr.sliceAt, Instr.slice, run_underlying hu, this, hsz]
  · -- with a third bound
    rename_i m
    rw [Option.bind_eq_some_iff] at h
    obtain ⟨lv, hlv, h⟩ := h
    split at h
    · cases h
    · rename_i hs
      simp only [Option.bind_eq_some_iff] at h
      obtain ⟨l, h1, hi', ⟨hx, hhx, h2⟩, m', h3, h⟩ := h
      simp only [okIf, Option.some.injEq, Prod.mk.injEq] at h
      obtain ⟨rfl, rfl⟩ := h
      have hb := hc _ rfl
      rw [andB_iff, andB_iff] at hb
      have hb0 : lenL (lv.x e) = ((lv.x e).length : Int) := rfl
      rw [hb0] at hb
      obtain ⟨⟨hb1, hb2⟩, hb3⟩ := hb
      obtain ⟨vm', rfl, hmr⟩ := hm m rfl
      obtain ⟨km, rfl⟩ := int_rel h3 hmr
      obtain ⟨vh', rfl, hhr⟩ := hh hx hhx
      obtain ⟨kh, rfl⟩ := int_rel h2 hhr
      have hmh : m' e = hi' e := by simpa [eqI] using hb3
      obtain ⟨el, hu, hsz⟩ := isSlT_spec (P := P) (t := t) (by simpa using hs)
      have hlr := list_rel hlv hr
      obtain ⟨A, cp, hv, hcp, _⟩ := id hlr
      obtain rfl : v = _ := (List.cons.inj hv).1
      have b1 := hb1
      have b2 := hb2
      rw [boundB_iff] at b1 b2
      refine ⟨.slice (if (hi' e).toNat = (l e).toNat then A else A.map (·.add ((l e).toNat * lv.t.size))) ((hi' e).toNat - (l e).toNat) ((hi' e).toNat - (l e).toNat), ⟨cut_rel hlr hb1 hb2 (m := (hi' e).toNat) (Nat.le_refl _) (by omega), _, _, rfl⟩, fun w' => ?_⟩
      have q1 : (Instr.sliceBound (.int km (m' e)) cp .slice3Acap).run P w' = .ok (hi' e).toNat w' := by
        rw [bound_run (by rw [boundB_iff]; omega), hmh]
      have q2 : (Instr.sliceBound (.int kh (hi' e)) (hi' e).toNat .slice3B).run P w' = .ok (hi' e).toNat w' := bound_run (by rw [boundB_iff]; omega) w'
      have q3 : (Instr.sliceBounds true (lv.x e).length cp vl (some (.int kh (hi' e))) (some (.int km (m' e)))).run P w' = .ok ((l e).toNat, (hi' e).toNat, (hi' e).toNat) w' := by
        rcases lo_run h1 hl hl0 with ⟨rfl, h0⟩ | ⟨k, rfl⟩
        · simp [Instr.sliceBounds, q1, q2, h0]
        · have q4 : (Instr.sliceBound (.int k (l e)) (hi' e).toNat .slice3C).run P w' = .ok (l e).toNat w' := bound_run (by rw [boundB_iff]; omega) w'
          simp [Instr.sliceBounds, q1, q2, q4]
      simp [Instr.sliceAt, Instr.slice, run_underlying hu, q3, hsz]
end Go.Proofs.YtmmbedlegmbppaaDoor.R
