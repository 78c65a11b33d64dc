/- To and from plain data: what the compiler's conversions mean. -/
import Derived.Test.YtkjjegjafpefcaaDoorR2
namespace Go.Proofs.YtkjjegjafpefcaaDoor.R
open Go Go.RowKit
set_option linter.unusedVariables false
section
variable {E : Type} {G : Gh} {w : World} {e : E}
theorem castTo_spec {t u : Ty} {x : E → t.den} {y : E → u.den} (h : castTo t u x = some y) : ∃ ht : t = u, y = ht ▸ x := by
  unfold castTo at h
  split at h
  · rename_i ht; exact ⟨ht, (Option.some.inj h).symm⟩
  · cases h
theorem castTo_rel {t u : Ty} {x : E → t.den} {y : E → u.den} (h : castTo t u x = some y) {Φ : Fz} {us : List Value} (hr : CRel Φ w t (x e) us) : CRel Φ w u (y e) us := by
  obtain ⟨ht, hy⟩ := castTo_spec h
  subst ht
  rw [show y = x from hy]
  exact hr
theorem own_cell {B : Nat} {el : TypeId} {size n : Nat} {v : Value} {us : List Value} (h : w.ownsRow B el size v n us) {g : Nat} (hg : v.ownBlock = some g) {i : Nat} {u : Value} (hu : us[i]? = some u) : w.cell? ⟨g, i, none⟩ = some u := by
  have := h.cells hg i u hu
  unfold Addr.add at this
  split at this
  · rename_i h0; subst h0; exact this
  · simpa using this
theorem own_max {B : Nat} {el : TypeId} {size n : Nat} {v : Value} {us : List Value} (h : w.ownsRow B el size v n us) : ∃ A c, v = .slice A n c ∧ n ≤ c ∧ c ≤ 9223372036854775807 ∧ ∀ g, v.ownBlock = some g → A = some ⟨g, 0, none⟩ := by
  rcases h.2 with ⟨rfl, rfl⟩ | ⟨g, cap, cur, rfl, _, _, h1, h2, _⟩
  · exact ⟨none, 0, rfl, Nat.le_refl _, by omega, fun g hg => by simp [Value.ownBlock] at hg⟩
  · refine ⟨_, cap, rfl, h1, by simp only [maxLen] at h2; omega, fun g' hg => by simp [Value.ownBlock] at hg; rw [hg]⟩
theorem own_none {B : Nat} {el : TypeId} {size n : Nat} {v : Value} {us : List Value} (h : w.ownsRow B el size v n us) (hv : v.ownBlock = none) : n = 0 := by
  rcases h.2 with ⟨rfl, rfl⟩ | ⟨g, cap, cur, rfl, _⟩
  · rfl
  · simp [Value.ownBlock] at hv
/-- A row of our own reads as any slice. -/
theorem OwnRel.view {Φ : Fz} {B : Nat} {el : TypeId} {t : Ty} {xs : List t.den} {v : Value} {bo : Option Nat} (h : OwnRel Φ w B el t xs v bo) : CRel Φ w (.sl el t) xs [v] := by
  obtain ⟨h1, us, h2, h3, h4⟩ := h
  obtain ⟨A, c, hv, hc, hm, hA⟩ := own_max h2
  refine ⟨A, c, by rw [hv], hc, hm, ?_⟩
  cases hb : v.ownBlock with
  | none =>
    have h0 := own_none h2 hb
    exact ⟨0, 0, .inl h0, fun j x hj => by rw [List.length_eq_zero_iff.1 h0] at hj; simp at hj⟩
  | some g =>
    refine ⟨g, 0, .inr (hA g hb), fun j x hj => ⟨_, ?_, h3 j x hj, fun i u hu => ?_⟩⟩
    · exact (h3 j x hj).length
    · have hj' := (List.getElem?_eq_some_iff.1 hj).1
      rw [List.getElem?_take] at hu
      split at hu
      · rename_i hi
        rw [List.getElem?_drop] at hu
        have hc := own_cell h2 hb hu
        refine ⟨(h4 g (h1 ▸ hb) _).2 ?_, by rw [show 0 + j * t.size + i = j * t.size + i by omega]; exact hc⟩
        have : (j + 1) * t.size ≤ xs.length * t.size := Nat.mul_le_mul_right _ hj'
        rw [Nat.succ_mul] at this
        omega
      · cases hu
theorem AV.to1_rel {u : Ty} : ∀ {a : AV E} {x : E → u.den} {v : Value}, a.to1 u = some x → a.Rel G w e v → CRel G.Φ w u (x e) [v] := by
  intro a x v h hr
  cases a with
  | sym t y => exact castTo_rel h hr
  | cb b => rw [show v = _ from hr]; exact castTo_rel (t := .bool) h rfl
  | nilsl =>
    rw [show v = _ from hr]
    cases u with
    | sl el t =>
      simp only [AV.to1, Option.some.injEq] at h
      subst h
      exact ⟨none, 0, rfl, Nat.le_refl _, by omega, 0, 0, .inl rfl, fun j y hj => by simp at hj⟩
    | _ => simp [AV.to1] at h
  | full el t y => exact castTo_rel (t := .sl el t) h hr.1
  | own z k el t y => obtain ⟨_, _, bo, _, ho⟩ := hr; exact castTo_rel (t := .sl el t) h ho.view
  | _ => simp [AV.to1] at h
theorem toTy_rel : ∀ {u : Ty} {cs : List (AV E)} {x : E → u.den} {us : List Value}, toTy u cs = some x → AV.Rels G w e cs us → CRel G.Φ w u (x e) us := by
  have base : ∀ {u : Ty} {cs : List (AV E)} {x : E → u.den} {us : List Value}, (match cs with | [c] => c.to1 u | _ => none) = some x → AV.Rels G w e cs us → CRel G.Φ w u (x e) us := by
    intro u cs x us h hr
    match cs, h with
    | [c], h =>
      obtain ⟨v, r, rfl, h1, h2⟩ := hr
      rw [show r = [] from h2]
      exact AV.to1_rel h h1
  intro u
  induction u with
  | pair a b iha ihb =>
    intro cs x us h hr
    simp only [toTy, Option.bind_eq_some_iff] at h
    obtain ⟨y, h1, z, h2, h3⟩ := h
    obtain rfl := Option.some.inj h3
    exact ⟨us.take a.size, us.drop a.size, (List.take_append_drop _ _).symm, iha h1 (hr.take _), ihb h2 (hr.drop _)⟩
  | agg t ih =>
    intro cs x us h hr
    exact ih (x := x) (by simpa only [toTy] using h) hr
  | int k => intro cs x us h hr; exact base (by cases cs with | nil => simp [toTy] at h | cons c r => cases r with | nil => simpa only [toTy] using h | cons _ _ => simp [toTy] at h) hr
  | bool => intro cs x us h hr; exact base (by cases cs with | nil => simp [toTy] at h | cons c r => cases r with | nil => simpa only [toTy] using h | cons _ _ => simp [toTy] at h) hr
  | str => intro cs x us h hr; exact base (by cases cs with | nil => simp [toTy] at h | cons c r => cases r with | nil => simpa only [toTy] using h | cons _ _ => simp [toTy] at h) hr
  | sl el t ih => intro cs x us h hr; exact base (by cases cs with | nil => simp [toTy] at h | cons c r => cases r with | nil => simpa only [toTy] using h | cons _ _ => simp [toTy] at h) hr
theorem fromTy_rel : ∀ {u : Ty} {x : E → u.den} {us : List Value}, CRel G.Φ w u (x e) us → AV.Rels G w e (fromTy u x) us := by
  have base : ∀ {u : Ty} {x : E → u.den} {us : List Value}, us.length = 1 → CRel G.Φ w u (x e) us → AV.Rels G w e [.sym u x] us := by
    intro u x us hl h
    match us, hl with
    | [v], _ => exact .cons h .nil
  intro u
  induction u with
  | pair a b iha ihb =>
    intro x us h
    obtain ⟨p, q, rfl, h1, h2⟩ := h
    exact (iha (x := fun e => (x e).1) h1).append (ihb (x := fun e => (x e).2) h2)
  | agg t ih => intro x us h; exact ih (x := x) h
  | int k => intro x us h; exact base (by rw [h.length]; rfl) h
  | bool => intro x us h; exact base (by rw [h.length]; rfl) h
  | str => intro x us h; exact base (by rw [h.length]; rfl) h
  | sl el t ih => intro x us h; exact base (by rw [h.length]; rfl) h
theorem AV.to_rel {u : Ty} {a : AV E} {x : E → u.den} {v : Value} (h : a.to u = some x) (hr : a.Rel G w e v) : VRel G.Φ w u (x e) v := by
  cases u with
  | agg t =>
    cases a with
    | ag cs =>
      simp only [AV.to] at h
      split at h
      · obtain ⟨us, hv, h1⟩ := hr
        exact ⟨us, hv, toTy_rel h h1⟩
      · cases h
    | _ => simp [AV.to] at h
  | _ => exact AV.to1_rel (by simpa only [AV.to] using h) hr
theorem AV.of_rel {u : Ty} {x : E → u.den} {v : Value} (h : VRel G.Φ w u (x e) v) : (AV.of u x).Rel G w e v := by
  cases u with
  | agg t => obtain ⟨us, hv, h⟩ := h; exact ⟨us, hv, fromTy_rel (u := t) (x := x) h⟩
  | _ => exact h
/-- Several values. -/
def TupRel (Φ : Fz) (w : World) : (l : List Ty) → Tup l → List Value → Prop
  | [], _, vs => vs = []
  | [t], x, vs => ∃ v, vs = [v] ∧ VRel Φ w t x v
  | t :: u :: r, x, vs => ∃ v vs', vs = v :: vs' ∧ VRel Φ w t x.1 v ∧ TupRel Φ w (u :: r) x.2 vs'
theorem toTup_rel : ∀ {l : List Ty} {cs : List (AV E)} {x : E → Tup l} {us : List Value}, toTup l cs = some x → AV.Rels G w e cs us → TupRel G.Φ w l (x e) us
  | [], cs, x, us, h, hr => by
    cases cs with
    | nil => exact hr
    | cons c cs => simp [toTup] at h
  | [t], cs, x, us, h, hr => by
    match cs, h with
    | [c], h =>
      obtain ⟨v, r, rfl, h1, h2⟩ := hr
      rw [show r = [] from h2]
      exact ⟨v, rfl, AV.to_rel (by simpa only [toTup] using h) h1⟩
    | [], h => simp [toTup] at h
    | _ :: _ :: _, h => simp [toTup] at h
  | t :: u :: l, cs, x, us, h, hr => by
    match cs, h with
    | [], h => simp [toTup] at h
    | c :: cs, h =>
      simp only [toTup, Option.bind_eq_some_iff] at h
      obtain ⟨y, h1, z, h2, h3⟩ := h
      obtain rfl := Option.some.inj h3
      obtain ⟨v, r, rfl, h4, h5⟩ := hr
      exact ⟨v, r, rfl, AV.to_rel (x := y) h1 h4, toTup_rel (x := z) h2 h5⟩
theorem ofTup_rel : ∀ {l : List Ty} {x : E → Tup l} {us : List Value}, TupRel G.Φ w l (x e) us → AV.Rels G w e (ofTup l x) us
  | [], x, us, h => h
  | [t], x, us, h => by obtain ⟨v, rfl, h⟩ := h; exact .cons (AV.of_rel h) .nil
  | t :: u :: l, x, us, h => by
    obtain ⟨v, vs, rfl, h1, h2⟩ := h
    exact .cons (AV.of_rel (x := fun e => (x e).1) h1) (ofTup_rel (x := fun e => (x e).2) h2)
/-! ### one cell -/
theorem CRel.one {Φ : Fz} {t : Ty} {x : t.den} : ∀ {us : List Value}, CRel Φ w t x us → ∀ u ∈ us, u.oneCell' = true := by
  induction t with
  | int k => intro us h; rw [show us = _ from h]; simp [Value.oneCell']
  | bool => intro us h; rw [show us = _ from h]; simp [Value.oneCell']
  | str => intro us h; rw [show us = _ from h]; simp [Value.oneCell']
  | sl el t ih => intro us h; obtain ⟨A, c, h, _⟩ := h; rw [h]; simp [Value.oneCell']
  | pair a b iha ihb =>
    intro us h
    obtain ⟨p, q, rfl, h1, h2⟩ := h
    intro u hu
    rcases List.mem_append.1 hu with hu | hu
    · exact iha h1 u hu
    · exact ihb h2 u hu
  | agg t ih => intro us h; exact ih (x := x) h
theorem AV.Rel.one {a : AV E} {v : Value} (ho : a.one = true) (h : a.Rel G w e v) : v.oneCell' = true := by
  cases a with
  | undef => simp [AV.one] at ho
  | ag cs => simp [AV.one] at ho
  | tup cs => simp [AV.one] at ho
  | sym t x => exact CRel.one (show CRel G.Φ w t (x e) [v] from h) v (by simp)
  | full el t x => exact CRel.one (show CRel G.Φ w (.sl el t) (x e) [v] from h.1) v (by simp)
  | own z k el t x => obtain ⟨_, _, bo, _, ho⟩ := h; exact CRel.one ho.view v (by simp)
  | cb b => rw [show v = _ from h]; rfl
  | nilsl => rw [show v = _ from h]; rfl
  | ptr b o => rw [h.2]; rfl
  | np b o => rcases h with h | h; · rw [h]; rfl
              · rw [h.2]; rfl
  | nilp => rw [show v = _ from h]; rfl
  | rp cs => obtain ⟨g, o, rfl, _⟩ := h; rfl
  | fn f cs => obtain ⟨us, rfl, _⟩ := h; rfl
  | nilf => rw [show v = _ from h]; rfl
  | mp b => rw [h.2]; rfl
  | ents kd vd x => simp [AV.one] at ho
theorem AV.Rels.one : ∀ {cs : List (AV E)} {us : List Value}, cs.all AV.one = true → AV.Rels G w e cs us → ∀ u ∈ us, u.oneCell' = true
  | [], us, _, h, u, hu => by rw [show us = [] from h] at hu; cases hu
  | c :: cs, us, ho, h, u, hu => by
    obtain ⟨v, r, rfl, h1, h2⟩ := h
    rw [List.all_cons, Bool.and_eq_true] at ho
    rcases List.mem_cons.1 hu with rfl | hu
    · exact h1.one ho.1
    · exact AV.Rels.one ho.2 h2 u hu
theorem cells_one {v : Value} (h : v.oneCell' = true) : v.cells = #[v] := by cases v <;> simp_all [Value.cells, Value.oneCell']
/-- The cells of a value, told. -/
theorem AV.cells_rel {a : AV E} {cs : List (AV E)} {v : Value} (h : a.cells = some cs) (hr : a.Rel G w e v) : AV.Rels G w e cs v.cells.toList ∧ ∀ u ∈ v.cells.toList, u.oneCell' = true := by
  have one : ∀ (b : AV E), b.one = true → b.Rel G w e v → some [b] = some cs → AV.Rels G w e cs v.cells.toList ∧ ∀ u ∈ v.cells.toList, u.oneCell' = true := by
    intro b hb hbr hs
    obtain rfl := Option.some.inj hs
    have ho := hbr.one hb
    rw [cells_one ho]
    exact ⟨.cons hbr .nil, fun u hu => by simp at hu; rw [hu]; exact ho⟩
  cases a with
  | ag ds =>
    simp only [AV.cells] at h
    split at h
    · rename_i ha
      obtain rfl := Option.some.inj h
      obtain ⟨us, rfl, h1⟩ := hr
      exact ⟨h1, h1.one ha⟩
    · cases h
  | undef => simp [AV.cells, AV.one] at h
  | tup ds => simp [AV.cells, AV.one] at h
  | ents kd vd x => simp [AV.cells, AV.one] at h
  | _ => exact one _ rfl hr (by simpa only [AV.cells, AV.one, if_true] using h)
end
end Go.Proofs.YtkjjegjafpefcaaDoor.R
