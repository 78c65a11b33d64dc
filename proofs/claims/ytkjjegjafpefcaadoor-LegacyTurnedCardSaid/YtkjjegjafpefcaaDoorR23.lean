/- Functions that call themselves; lists of specs. -/
import Derived.Test.YtkjjegjafpefcaaDoorR22
namespace Go.Proofs.YtkjjegjafpefcaaDoor.R
open Go Go.RowKit
set_option linter.unusedVariables false
/-- The rounds of a function that calls itself. -/
def recF (P : Program) (L : Specs) (n : Nat) (h : H) (f : FuncId) (args res : List Ty) : Nat → Nat → Tup args → Option (Tup res)
  | 0 => fun _ _ => none
  | d + 1 => fnF P ((f, .fn ⟨args, res, recF P L n h f args res d⟩) :: L) n h f args res
def Specs.Ok (P : Program) (T : World → Prop) (L : Specs) : Prop := ∀ f S, L.get f = some S → S.OK P T f
theorem Specs.Ok.nil {P : Program} {T : World → Prop} : Specs.Ok P T [] := by
  intro f S h
  cases h
theorem Specs.Ok.cons {P : Program} {T : World → Prop} {L : Specs} {f : FuncId} {S : Spec} (h : S.Sound P T f) (hL : Specs.Ok P T L) : Specs.Ok P T ((f, .fn S) :: L) := by
  intro g S' hg
  by_cases e : g = f
  · subst e
    have : Con.fn S = S' := by simpa [Specs.get] using hg
    exact this ▸ (show Con.OK P T g (.fn S) from h)
  · have : L.get g = some S' := by
      have e' : ¬ f = g := fun x => e x.symm
      simpa [Specs.get, e, e'] using hg
    exact hL g S' this
theorem Specs.Ok.consX {P : Program} {T : World → Prop} {L : Specs} {f : FuncId} {X : Spx} (h : X.OK P f) (hL : Specs.Ok P T L) : Specs.Ok P T ((f, .x X) :: L) := by
  intro g S' hg
  by_cases e : g = f
  · subst e
    have : Con.x X = S' := by simpa [Specs.get] using hg
    exact this ▸ (show Con.OK P T g (.x X) from h)
  · have : L.get g = some S' := by
      have e' : ¬ f = g := fun x => e x.symm
      simpa [Specs.get, e, e'] using hg
    exact hL g S' this
theorem mk_sound {P : Program} {T : World → Prop} {L : Specs} {n : Nat} {h : H} {f : FuncId} {args res : List Ty} {F : Nat → Tup args → Option (Tup res)} (hT : ∀ w w', T w → Below w.heap.size w w' → T w') (hL : Specs.Ok P T L) (hF : ∀ k x, fnF P L n h f args res k x = F k x) : Spec.Sound P T f ⟨args, res, F⟩ := by
  have := mkSpec_sound (n := n) (h := h) (f := f) (args := args) (res := res) hL hT
  have e : mkSpec P L n h f args res = ⟨args, res, F⟩ := by
    unfold mkSpec
    congr 1
    funext k x
    exact hF k x
  exact e ▸ this
theorem recF_sound {P : Program} {T : World → Prop} {L : Specs} {n : Nat} {h : H} {f : FuncId} {args res : List Ty} (hT : ∀ w w', T w → Below w.heap.size w w' → T w') (hL : Specs.Ok P T L) : ∀ d, Spec.Sound P T f ⟨args, res, recF P L n h f args res d⟩
  | 0 => by
    intro k x r hF
    cases hF
  | d + 1 => mkSpec_sound (h := h) (Specs.Ok.cons (recF_sound hT hL d) hL) hT
theorem rec_sound {P : Program} {T : World → Prop} {L : Specs} {n : Nat} {h : H} {f : FuncId} {args res : List Ty} {G : (Nat → Tup args → Option (Tup res)) → Nat → Tup args → Option (Tup res)} {F : Nat → Nat → Tup args → Option (Tup res)} (hT : ∀ w w', T w → Below w.heap.size w w' → T w') (hL : Specs.Ok P T L)
    (hG : ∀ g k x, fnF P ((f, .fn ⟨args, res, g⟩) :: L) n h f args res k x = G g k x) (h0 : ∀ k x, F 0 k x = none) (h1 : ∀ d k x, F (d + 1) k x = G (F d) k x) : Spec.Sound P T f ⟨args, res, fun k x => F k k x⟩ := by
  have e : ∀ d, recF P L n h f args res d = F d := by
    intro d
    induction d with
    | zero => funext k x; exact (h0 k x).symm
    | succ d ih =>
      funext k x
      show fnF P ((f, .fn ⟨args, res, recF P L n h f args res d⟩) :: L) n h f args res k x = _
      rw [ih, hG, h1]
  intro k x r hF
  have hs := recF_sound (P := P) (T := T) (L := L) (n := n) (h := h) (f := f) (args := args) (res := res) hT hL k
  rw [e] at hs
  exact hs k x r hF
end Go.Proofs.YtkjjegjafpefcaaDoor.R
