/- Contracts by hand over flat values; what a law's row needs. -/
import Derived.Test.YtkjjegjafpefcaaDoorR23
namespace Go.Proofs.YtkjjegjafpefcaaDoor.R
open Go Go.RowKit
set_option linter.unusedVariables false
def Ty.flat : Ty → Bool
  | .int _ | .bool | .str => true
  | _ => false
def Ty.val : (t : Ty) → t.den → Value
  | .int k, x => .int k x
  | .bool, x => .bool x
  | .str, x => .string x
  | _, _ => undef
def vals : (l : List Ty) → Tup l → List Value
  | [], _ => []
  | [t], x => [t.val x]
  | t :: u :: l, x => t.val x.1 :: vals (u :: l) x.2
theorem flat_rel {Φ : Fz} {w : World} {t : Ty} (h : t.flat = true) {x : t.den} {v : Value} : VRel Φ w t x v ↔ v = t.val x := by
  cases t with
  | int k => exact ⟨fun h => (List.cons.inj h).1, fun h => by rw [h]; rfl⟩
  | bool => exact ⟨fun h => (List.cons.inj h).1, fun h => by rw [h]; rfl⟩
  | str => exact ⟨fun h => (List.cons.inj h).1, fun h => by rw [h]; rfl⟩
  | _ => cases h
theorem flats_rel {Φ : Fz} {w : World} : ∀ {l : List Ty} (h : l.all Ty.flat = true) {x : Tup l} {vs : List Value}, TupRel Φ w l x vs ↔ vs = vals l x
  | [], _, _, _ => Iff.rfl
  | [t], h, x, vs => by
    have ht : t.flat = true := by simpa using h
    constructor
    · rintro ⟨v, rfl, hv⟩
      rw [(flat_rel ht).1 hv]; rfl
    · intro e
      exact ⟨_, e, (flat_rel ht).2 rfl⟩
  | t :: u :: l, h, x, vs => by
    have h2 : t.flat = true ∧ (u :: l).all Ty.flat = true := by simpa only [List.all_cons, Bool.and_eq_true] using h
    constructor
    · rintro ⟨v, vs', rfl, hv, hr⟩
      rw [(flat_rel h2.1).1 hv, (flats_rel h2.2).1 hr]; rfl
    · intro e
      exact ⟨_, _, e, (flat_rel h2.1).2 rfl, (flats_rel h2.2).2 rfl⟩
theorem sound_flat {P : Program} {T : World → Prop} {f : FuncId} {args res : List Ty} {F : Nat → Tup args → Option (Tup res)} (ha : args.all Ty.flat = true) (hr : res.all Ty.flat = true)
    (h : ∀ k x r w, F k x = some r → T w → Calls P f (vals args x).toArray w fun e w1 => e = .returned (packV (vals res r)) ∧ Below w.heap.size w w1) : Spec.Sound P T f ⟨args, res, F⟩ := by
  intro k x r hF Φ w vs hT hfz hx
  have e : vs = (vals args x).toArray := by rw [← (flats_rel ha).1 hx]
  subst e
  refine (h k x r w hF hT).mono ?_
  rintro en w1 ⟨rfl, hb⟩
  exact ⟨_, Φ, rfl, hb, fun _ _ h => h, fun _ _ _ h => h, fun b i hbi => Nat.lt_of_lt_of_le (hfz b i hbi) hb.size, _, (flats_rel hr).2 rfl, rfl⟩
end Go.Proofs.YtkjjegjafpefcaaDoor.R
