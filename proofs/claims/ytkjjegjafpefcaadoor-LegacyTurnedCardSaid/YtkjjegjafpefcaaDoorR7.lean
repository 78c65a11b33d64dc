/- The operations that leave the world alone: equality, choices, structs that are built; and all of them together. -/
import Derived.Test.YtkjjegjafpefcaaDoorR6
import Derived.Laws.StructEq
namespace Go.Proofs.YtkjjegjafpefcaaDoor.R
open Go Go.RowKit
set_option linter.unusedVariables false
set_option linter.unusedSimpArgs false
variable {E : Type} {G : Gh} {w : World} {e : E} {P : Program} {n : Nat → Prop}
theorem strip_size (u : Ty) : u.strip.size = u.size := by cases u <;> rfl
theorem strip_den (u : Ty) : u.strip.den = u.den := by cases u <;> rfl
/-- A part of a struct, told by its kind. -/
theorem plainT_agg {n : Nat} {t : TypeId} {u : Ty} (h : plainT P n t = some u) : (P.underlying t).isNone = false ∧ ((isAggT P t = true ∧ ∃ u', u = .agg u') ∨ (isAggT P t = false ∧ u.strip = u ∧ ∀ u', u ≠ .agg u')) := by
  cases n with
  | zero => cases h
  | succ n =>
    unfold plainT at h
    cases hu : P.underlying t with
    | none => rw [hu] at h; cases h
    | some d =>
      rw [hu] at h
      refine ⟨rfl, ?_⟩
      cases d <;> (try simp only [Option.some.injEq, reduceCtorEq] at h)
      case bool => subst h; exact .inr ⟨by simp [isAggT, hu], rfl, by simp⟩
      case int k => subst h; exact .inr ⟨by simp [isAggT, hu], rfl, by simp⟩
      case string => subst h; exact .inr ⟨by simp [isAggT, hu], rfl, by simp⟩
      case struct fs =>
        split at h
        · cases h
        · rw [Option.map_eq_some_iff] at h
          obtain ⟨v, _, rfl⟩ := h
          exact .inl ⟨by simp [isAggT, hu], v, rfl⟩
theorem part_cut {t : TypeId} {u : Ty} {o k : Nat} (ht : plainT P k t = some u) (hs : sizeT P t = u.size) {us : Array Value} {r : List Value} (hd : us.toList.drop o = r) {p q : List Value} (hp : r = p ++ q) (hl : p.length = u.size) :
    ∃ v, (∀ w', (part t us o).run P w' = .ok v w') ∧ (∀ u', u = .agg u' → v = .agg p.toArray) ∧ ((∀ u', u ≠ .agg u') → p = [v]) := by
  obtain ⟨hu, h | h⟩ := plainT_agg ht
  · obtain ⟨ha, u', rfl⟩ := h
    refine ⟨.agg (us.extract o (o + sizeT P t)), fun w' => by simp [part, isAgg_run hu, ha, sizeT_run hu], fun u'' _ => ?_, fun hne => absurd rfl (hne u')⟩
    congr 1
    apply Array.ext'
    rw [Array.toList_extract]
    simp only [List.extract_eq_take_drop, Nat.add_sub_cancel_left]
    rw [hd, hp, hs, ← hl, List.take_left']
    rfl
  · obtain ⟨ha, _, hne⟩ := h
    have h1 : u.size = 1 := by
      cases u with
      | agg u' => exact absurd rfl (hne u')
      | pair a b =>
        exfalso
        cases k with
        | zero => cases ht
        | succ k =>
          unfold plainT at ht
          split at ht <;> first | cases ht | skip
          split at ht
          · cases ht
          · rw [Option.map_eq_some_iff] at ht; obtain ⟨v, _, hv⟩ := ht; cases hv
      | _ => rfl
    obtain ⟨v, rfl⟩ : ∃ v, p = [v] := by
      match p, hl with
      | [v], _ => exact ⟨v, rfl⟩
      | [], hl => rw [h1] at hl; cases hl
      | _ :: _ :: _, hl => rw [h1] at hl; simp at hl
    have hv : us[o]? = some v := by
      rw [← Array.getElem?_toList]
      have := congrArg (·[0]?) hd
      simp only [List.getElem?_drop, Nat.add_zero, hp] at this
      simpa using this
    exact ⟨v, fun w' => by simp [part, isAgg_run hu, ha, hv], fun u' hu' => absurd hu' (hne u'), fun _ => rfl⟩
theorem eqD_strip (u : Ty) (x y : u.den) (x' y' : u.strip.den) (hx : HEq x x') (hy : HEq y y') : eqD u.strip x' y' = eqD u x y := by
  cases u <;> (cases hx; cases hy; rfl)
theorem CRel.of_strip {Φ : Fz} {u : Ty} {x' : u.strip.den} {us : List Value} (h : CRel Φ w u.strip x' us) : ∃ x : u.den, HEq x x' ∧ CRel Φ w u x us := by
  cases u <;> exact ⟨x', HEq.rfl, h⟩
/-- One struct is as another one is: cell by cell. -/
theorem plainT_eq : ∀ (k : Nat) (t : TypeId) (u : Ty), plainT P k t = some u → ∀ (d : Nat), k ≤ d → ∀ (Φ : Fz) (x y : u.den) (va vb : Value), VRel Φ w u x va → VRel Φ w u y vb → ∀ w', (Op.equalIn d t va vb).run P w' = .ok (eqD u x y) w' := by
  intro k
  induction k with
  | zero => intro t u h; cases h
  | succ k ih =>
    intro t u h d hd Φ x y va vb hx hy w'
    obtain ⟨d, rfl⟩ : ∃ j, d = j + 1 := ⟨d - 1, by omega⟩
    unfold plainT at h
    cases hu : P.underlying t with
    | none => rw [hu] at h; cases h
    | some ds =>
      rw [hu] at h
      cases ds <;> (try simp only [Option.some.injEq, reduceCtorEq] at h)
      case bool =>
        subst h
        obtain rfl := (List.cons.inj (show [va] = _ from hx)).1
        obtain rfl := (List.cons.inj (show [vb] = _ from hy)).1
        exact run_equalIn_bool' w' d t x y hu
      case int kk =>
        subst h
        obtain rfl := (List.cons.inj (show [va] = _ from hx)).1
        obtain rfl := (List.cons.inj (show [vb] = _ from hy)).1
        exact run_equalIn_int w' d t kk kk x y hu
      case string =>
        subst h
        obtain rfl := (List.cons.inj (show [va] = _ from hx)).1
        obtain rfl := (List.cons.inj (show [vb] = _ from hy)).1
        exact run_equalIn_string w' d t x y hu
      case struct fs =>
        split at h
        · cases h
        · rename_i hst
          rw [Option.map_eq_some_iff] at h
          obtain ⟨v, hgo, rfl⟩ := h
          obtain ⟨us, rfl, hus⟩ := hx
          obtain ⟨vs, rfl, hvs⟩ := hy
          have hfs : P.fieldsOf t = fs := by simp [Program.fieldsOf, hu]
          rw [run_equalIn_struct w' d t us vs (by rw [hfs]; exact hu) (by simpa using hst), hfs]
          have main : ∀ (l : List Field) (o : Nat) (v : Ty), plainT.go P o (l.map fun f => (f, plainT P k f.type)) = some v → ∀ (x y : v.den), CRel Φ w v x (us.toList.drop o) → CRel Φ w v y (vs.toList.drop o) →
              (Op.eqFields d us vs l).run P w' = .ok (eqD v x y) w' := by
            intro l
            induction l with
            | nil => intro o v h; cases h
            | cons f r ihl =>
              intro o v h x y hx hy
              cases r with
              | nil =>
                simp only [List.map_cons, List.map_nil, plainT.go, Option.bind_eq_some_iff] at h
                obtain ⟨u, hfu, h⟩ := h
                split at h
                · rename_i hc
                  obtain rfl := Option.some.inj h
                  simp only [Bool.and_eq_true, bne_iff_ne, ne_eq, decide_eq_true_eq] at hc
                  obtain ⟨⟨hn, ho⟩, hsz⟩ := hc
                  subst ho
                  obtain ⟨x0, hx0, hxr⟩ := hx.of_strip
                  obtain ⟨y0, hy0, hyr⟩ := hy.of_strip
                  obtain ⟨va, ra, a1, a2⟩ := part_cut hfu hsz rfl (List.append_nil _).symm hxr.length
                  obtain ⟨vb, rb, b1, b2⟩ := part_cut hfu hsz rfl (List.append_nil _).symm hyr.length
                  have hva : VRel Φ w u x0 va := by
                    cases u with
                    | agg u' => exact ⟨_, a1 u' rfl, hxr⟩
                    | _ => have := a2 (by simp); rw [this] at hxr; exact hxr
                  have hvb : VRel Φ w u y0 vb := by
                    cases u with
                    | agg u' => exact ⟨_, b1 u' rfl, hyr⟩
                    | _ => have := b2 (by simp); rw [this] at hyr; exact hyr
                  have he := ih f.type u hfu d (by omega) Φ x0 y0 va vb hva hvb w'
                  rw [eqD_strip u x0 y0 x y hx0 hy0]
                  simp only [Op.eqFields, ne_eq, hn, not_false_eq_true, if_true, Sem.run_bind, ra, rb, Result.andThen_ok, he]
                  cases eqD u x0 y0 <;> simp
                · cases h
              | cons g r =>
                simp only [List.map_cons, plainT.go, Option.bind_eq_some_iff] at h
                obtain ⟨u, hfu, h⟩ := h
                split at h
                · rename_i hc
                  rw [Option.bind_eq_some_iff] at h
                  obtain ⟨v', hgo', h⟩ := h
                  obtain rfl := Option.some.inj h
                  simp only [Bool.and_eq_true, bne_iff_ne, ne_eq, decide_eq_true_eq] at hc
                  obtain ⟨⟨hn, ho⟩, hsz⟩ := hc
                  subst ho
                  obtain ⟨p1, q1, e1, c1, c1'⟩ := hx
                  obtain ⟨p2, q2, e2, c2, c2'⟩ := hy
                  obtain ⟨x0, hx0, hxr⟩ := c1.of_strip
                  obtain ⟨y0, hy0, hyr⟩ := c2.of_strip
                  obtain ⟨va, ra, a1, a2⟩ := part_cut hfu hsz rfl e1 hxr.length
                  obtain ⟨vb, rb, b1, b2⟩ := part_cut hfu hsz rfl e2 hyr.length
                  have hva : VRel Φ w u x0 va := by
                    cases u with
                    | agg u' => exact ⟨_, a1 u' rfl, hxr⟩
                    | _ => have := a2 (by simp); rw [this] at hxr; exact hxr
                  have hvb : VRel Φ w u y0 vb := by
                    cases u with
                    | agg u' => exact ⟨_, b1 u' rfl, hyr⟩
                    | _ => have := b2 (by simp); rw [this] at hyr; exact hyr
                  have he := ih f.type u hfu d (by omega) Φ x0 y0 va vb hva hvb w'
                  have d1 : us.toList.drop (f.offset + u.size) = q1 := by rw [← List.drop_drop, e1, ← hxr.length, List.drop_left']; rfl
                  have d2 : vs.toList.drop (f.offset + u.size) = q2 := by rw [← List.drop_drop, e2, ← hyr.length, List.drop_left']; rfl
                  have hrest := ihl (f.offset + u.size) v' (by simpa only [List.map_cons] using hgo') x.2 y.2 (by rw [d1]; exact c1') (by rw [d2]; exact c2')
                  show _ = Result.ok (andB (eqD u.strip x.1 y.1) (eqD v' x.2 y.2)) w'
                  rw [eqD_strip u x0 y0 x.1 y.1 hx0 hy0]
                  rw [Op.eqFields]
                  simp only [ne_eq, hn, not_false_eq_true, if_true, Sem.run_bind, ra, rb, Result.andThen_ok, he]
                  cases eqD u x0 y0
                  · simp [andB]
                  · simp only [Bool.not_true, Bool.false_eq_true, if_false, andB, Bool.true_and]
                    exact hrest
                · cases h
          exact main fs.toList 0 v hgo x y (by simpa using hus) (by simpa using hvs)
end Go.Proofs.YtkjjegjafpefcaaDoor.R
