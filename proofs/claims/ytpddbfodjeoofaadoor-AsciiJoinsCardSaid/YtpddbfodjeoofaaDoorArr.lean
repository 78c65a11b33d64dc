import Derived.Test.YtpddbfodjeoofaaDoorProg
import Derived.OpenShut
/- An array of whole numbers as an argument: opened, and shut. -/
namespace Go.Proofs.YtpddbfodjeoofaaDoor.Pure
open Go.ChangeShapes Go.WideShapes
section
variable {H : Type} {enc : TypeId × Value → H} {P : Program} {w : World} {base : Nat} {spare : Nat → Bool} {held : Bool}
theorem single_of {α : Type} {l : List α} (h : l.length = 1) : ∃ a, l = [a] := by
  match l, h with
  | [a], _ => exact ⟨a, rfl⟩
theorem ints_aux {k : IntKind} {e : TypeId} (he : P.underlying e = some (.int k)) (hc : P.cellsOf e = 1) {m : Nat} : ∀ (n : Nat) (cs : List Value) (ys : List (DataW H × List MemPlace)), cs.length = n → ys.length = n →
    (∀ i, i < n → DataW.trod enc P w base spare held m e ((cs.drop (i * P.cellsOf e)).take (P.cellsOf e)) = ys[i]?) →
    ∃ xs : List Int, xs.length = n ∧ cs = xs.map (Value.int k) ∧ ys = xs.map (fun x => (DataW.lit (.int k x), [])) ∧ ∀ x ∈ xs, (Lit.int k x).wf = true := by
  intro n
  induction n with
  | zero =>
    intro cs ys h1 h2 _
    obtain rfl := List.length_eq_zero_iff.1 h1
    obtain rfl := List.length_eq_zero_iff.1 h2
    exact ⟨[], rfl, rfl, rfl, fun x hx => by cases hx⟩
  | succ n ih =>
    intro cs ys h1 h2 h3
    match cs, ys, h1, h2 with
    | c :: cs, y :: ys, h1, h2 =>
      have h0 := h3 0 (by omega)
      rw [hc] at h0
      simp only [Nat.zero_mul, List.drop_zero, List.take_succ_cons, List.take_zero, List.getElem?_cons_zero] at h0
      obtain ⟨x, e1, e2, e3⟩ := DataW.trod_int he h0
      obtain ⟨xs, g1, g2, g3, g4⟩ := ih cs ys (by simpa using h1) (by simpa using h2) (fun i hi => by
        have := h3 (i + 1) (by omega)
        rw [hc] at this ⊢
        simpa using this)
      refine ⟨x :: xs, by simp [g1], ?_, ?_, ?_⟩
      · simp at e1; rw [e1, g2]; rfl
      · rw [e2, g3]; rfl
      · intro z hz
        rcases List.mem_cons.1 hz with rfl | hz
        · exact e3
        · exact g4 z hz
theorem open_ints {r : Reach} {b0 n : Nat} {t e : TypeId} {k : IntKind} {v : Value} {d : DataW H} {ps : List MemPlace} (ht : P.underlying t = some (.array n e)) (he : P.underlying e = some (.int k)) (hc : P.cellsOf e = 1) (hct : P.cellsOf t = n)
    (hval : Value.okWide P w r b0 t v) (hd : DataW.Trod enc P w base spare held t v d ps) :
    ∃ xs : List Int, xs.length = n ∧ v = .agg (xs.map (Value.int k)).toArray ∧ d = .agg (xs.map fun x => .lit (.int k x)) ∧ ps = [] ∧ ∀ x ∈ xs, (Lit.int k x).wf = true := by
  obtain ⟨cs, rfl, hsz, _⟩ : ∃ cs, v = .agg cs ∧ cs.size = P.cellsOf t ∧ Row.okWide P w r b0 t cs := by simpa [Value.okWide, ht] using hval
  obtain ⟨fuel, hf⟩ := hd
  obtain ⟨ys, m, _, hx, hl, hy, hel⟩ := DataW.trod_array ht hf
  have hcl : (Value.agg cs).cells.toList = cs.toList := rfl
  rw [hcl] at hl hel
  obtain ⟨xs, g1, g2, g3, g4⟩ := ints_aux he hc n cs.toList ys (by rw [hl, hct]) hy hel
  simp only [Prod.mk.injEq] at hx
  refine ⟨xs, g1, ?_, ?_, ?_, g4⟩
  · rw [← g2]
  · rw [hx.1, g3]; simp [List.map_map, Function.comp_def]
  · rw [hx.2, g3]; induction xs with
    | nil => rfl
    | cons a l _ => simp [List.flatMap_map]
theorem shut_ints {n : Nat} {t e : TypeId} {k : IntKind} (ht : P.underlying t = some (.array n e)) (he : P.underlying e = some (.int k)) (hc : P.cellsOf e = 1) (hct : P.cellsOf t = n) (xs : List Int) (hl : xs.length = n) (hw : ∀ x ∈ xs, (Lit.int k x).wf = true) :
    DataW.Trod enc P w base spare held t (.agg (xs.map (Value.int k)).toArray) (.agg (xs.map fun x => .lit (.int k x))) [] := by
  refine ⟨2, ?_⟩
  have hcl : (Value.agg (xs.map (Value.int k)).toArray).cells.toList = xs.map (Value.int k) := rfl
  rw [hcl]
  unfold DataW.trod
  rw [ht]
  have hm : ∀ (zs : List Nat), (∀ i ∈ zs, i < n) → (zs.mapM fun i => DataW.trod enc P w base spare held 1 e (((xs.map (Value.int k)).drop (i * P.cellsOf e)).take (P.cellsOf e))) = some (zs.map fun i => (DataW.lit (.int k (xs.getD i 0)), [])) := by
    intro zs
    induction zs with
    | nil => intro _; rfl
    | cons i zs ih =>
      intro hz
      have hi : i < xs.length := by rw [hl]; exact hz i (by simp)
      have e1 : DataW.trod enc P w base spare held 1 e (((xs.map (Value.int k)).drop (i * P.cellsOf e)).take (P.cellsOf e)) = some (DataW.lit (.int k (xs.getD i 0)), []) := by
        rw [hc, Nat.mul_one, List.drop_eq_getElem_cons (by simpa using hi)]
        simp only [List.take_succ_cons, List.take_zero, List.getElem_map]
        have hg : xs.getD i 0 = xs[i] := by rw [List.getD_eq_getElem?_getD, List.getElem?_eq_getElem hi]; rfl
        rw [hg]
        simp [DataW.trod, he, hw xs[i] (List.getElem_mem hi)]
      rw [List.mapM_cons, e1, ih (fun j hj => hz j (by simp [hj]))]; rfl
  have hr : (List.range n).map (fun i => xs.getD i 0) = xs := by
    apply List.ext_getElem
    · simp [hl]
    · intro i h1 h2
      simp only [List.getElem_map, List.getElem_range]
      rw [List.getD_eq_getElem?_getD, List.getElem?_eq_getElem h2]; rfl
  simp only []
  rw [if_pos (by rw [hct]; simpa using hl), hm _ (fun i hi => List.mem_range.1 hi)]
  simp only [Option.map_some, Option.some.injEq, Prod.mk.injEq, List.map_map, List.flatMap_map]
  refine ⟨?_, ?_⟩
  · congr 1
    conv => rhs; rw [← hr]
    rw [List.map_map]; rfl
  · generalize List.range n = zs
    induction zs with
    | nil => rfl
    | cons a l ih => simp
end
end Go.Proofs.YtpddbfodjeoofaaDoor.Pure
