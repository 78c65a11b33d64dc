/- The operations that leave the world alone: arithmetic, comparisons, texts. -/
import Derived.Test.YtkjjegjafpefcaaDoorR3
import Derived.Tactics
import Derived.Laws.Cells
import Derived.Laws.Entries
namespace Go.Proofs.YtkjjegjafpefcaaDoor.R
open Go Go.RowKit
set_option linter.unusedVariables false
set_option linter.unusedSimpArgs false
/-- A world in which the frozen cells, and the blocks of our own, are as they are here. -/
structure Same (G : Gh) (n : Nat → Prop) (w w' : World) : Prop where
  cell : ∀ b i, G.Φ b i → w'.cell? ⟨b, i, none⟩ = w.cell? ⟨b, i, none⟩
  blk : ∀ b, n b → w'.heap[G.ρ b]? = w.heap[G.ρ b]?
theorem Same.refl (G : Gh) (n : Nat → Prop) (w : World) : Same G n w w := ⟨fun _ _ _ => rfl, fun _ _ => rfl⟩
variable {E : Type} {G : Gh} {w : World} {e : E} {P : Program}
/-- The operation yields this, in whatever world of that kind. -/
def Live {E : Type} (bs : List (Blk E)) (b : Nat) : Prop := ∃ el cs, bs[b]? = some (.cells el cs)
def Yld (P : Program) (G : Gh) (n : Nat → Prop) (w : World) (r : Sem Next) (v : Value) : Prop := ∀ w', Same G n w w' → r.run P w' = .ok (.value v) w'
theorem Yld.of {n : Nat → Prop} {r : Sem Next} {v : Value} (h : ∀ w', r.run P w' = .ok (.value v) w') : Yld P G n w r v := fun w' _ => h w'
theorem eqGuard_int {op : BinOp} {t : TypeId} {x y : Operand} {k k' : IntKind} {m n : Int} {w : World} : (eqGuard op t x y (.int k m) (.int k' n)).run P w = .ok () w := by
  unfold eqGuard
  cases op <;> simp [Sem.run]
theorem eqGuard_str {op : BinOp} {t : TypeId} {x y : Operand} {m n : ByteArray} {w : World} : (eqGuard op t x y (.string m) (.string n)).run P w = .ok () w := by
  unfold eqGuard
  cases op <;> simp [Sem.run]
theorem eqGuard_bool {op : BinOp} {t : TypeId} {x y : Operand} {m n : Bool} {w : World} : (eqGuard op t x y (.bool m) (.bool n)).run P w = .ok () w := by
  unfold eqGuard
  cases op <;> simp [Sem.run]
theorem eqGuard_slice {op : BinOp} {t : TypeId} {x y : Operand} {A B : Option Addr} {n c m d : Nat} {w : World} : (eqGuard op t x y (.slice A n c) (.slice B m d)).run P w = .ok () w := by
  unfold eqGuard
  cases op <;> simp
def binRun (op : BinOp) (t : TypeId) (x y : Operand) (u v : Value) : Sem Next := do
  let r ← (do eqGuard op t x y u v; Go.binOp op t u v)
  pure (.value r)
theorem binRun_of {op : BinOp} {t : TypeId} {x y : Operand} {u v r : Value} {w : World} (hg : (eqGuard op t x y u v).run P w = .ok () w) (hb : (Go.binOp op t u v).run P w = .ok r w) : (binRun op t x y u v).run P w = .ok (.value r) w := by
  unfold binRun
  simp only [Sem.run_bind, hg, hb, Result.andThen_ok, Sem.run_pure]
/-- whole numbers -/
theorem binInt_run {op : BinOp} {k : IntKind} {x y : E → Int} {c : Option (E → Bool)} {av : AV E} {t : TypeId} (h : binInt op k x y = some (c, av)) (hc : ∀ f, c = some f → f e = true) (hop : op ≠ .shl ∧ op ≠ .shr) :
    ∃ v, av.Rel G w e v ∧ ∀ w', (Go.binOp op t (.int k (x e)) (.int k (y e))).run P w' = .ok v w' := by
  cases op <;> simp only [binInt, ok, okIf, Option.some.injEq, Prod.mk.injEq, reduceCtorEq] at h <;> first | (exact absurd rfl hop.1) | (exact absurd rfl hop.2) | skip
  all_goals (obtain ⟨rfl, rfl⟩ := h)
  case quo =>
    have := hc _ rfl
    have hy : ¬ y e = 0 := by simpa [neI] using this
    exact ⟨_, rfl, fun w' => by simp [Go.binOp, Op.intDiv, hy, Sem.run, quoI]⟩
  case rem =>
    have := hc _ rfl
    have hy : ¬ y e = 0 := by simpa [neI] using this
    exact ⟨_, rfl, fun w' => by simp [Go.binOp, Op.intDiv, hy, Sem.run, remI]⟩
  all_goals first
    | exact ⟨_, rfl, fun w' => by simp [Go.binOp, Op.intArith, Op.intBits, Op.intCmp, Sem.run, addI, subI, mulI, bits, eqI, neI, ltI, leI]⟩
theorem shift_run {op : BinOp} {k : IntKind} {x y : E → Int} {c : Option (E → Bool)} {av : AV E} {k' : IntKind} {t : TypeId} (h : shift op k x y = some (c, av)) (hc : ∀ f, c = some f → f e = true) :
    ∃ v, av.Rel G w e v ∧ ∀ w', (Go.binOp op t (.int k (x e)) (.int k' (y e))).run P w' = .ok v w' := by
  cases op <;> simp only [shift, okIf, Option.some.injEq, Prod.mk.injEq, reduceCtorEq] at h
  all_goals
    obtain ⟨rfl, rfl⟩ := h
    have := hc _ rfl
    have hy : ¬ y e < 0 := by simp [leI] at this; omega
    exact ⟨_, rfl, fun w' => by simp [Go.binOp, Op.shift, hy, Sem.run, shlI, shrI]⟩
theorem bless_eq : ∀ x y : List UInt8, Op.bytesLess x y = bless x y
  | _, [] => by unfold Op.bytesLess bless; rfl
  | [], _ :: _ => rfl
  | a :: x, b :: y => by unfold Op.bytesLess bless; rw [bless_eq x y]
theorem binStr_run {op : BinOp} {x y : E → ByteArray} {c : Option (E → Bool)} {av : AV E} {t : TypeId} (h : binStr op x y = some (c, av)) (hc : ∀ f, c = some f → f e = true) :
    ∃ v, av.Rel G w e v ∧ ∀ w', (Go.binOp op t (.string (x e)) (.string (y e))).run P w' = .ok v w' := by
  cases op <;> simp only [binStr, ok, okIf, Option.some.injEq, Prod.mk.injEq, reduceCtorEq] at h
  all_goals (obtain ⟨rfl, rfl⟩ := h)
  case add =>
    have := hc _ rfl
    simp only [fitsS, decide_eq_true_eq] at this
    have hn : ¬ (((x e).size + (y e).size : Nat) : Int) > IntKind.i64.max := by
      have : IntKind.i64.max = 9223372036854775807 := by decide
      omega
    exact ⟨_, rfl, fun w' => by simp only [Go.binOp, Op.stringOp, if_neg hn]; rfl⟩
  all_goals exact ⟨_, rfl, fun w' => by simp only [Go.binOp, Op.stringOp, eqS, ltS, notB, orB, bless_eq]; rfl⟩
theorem un_run {op : UnOp} {a : AV E} {c : Option (E → Bool)} {av : AV E} {v : Value} (h : unOut op a = some (c, av)) (hr : a.Rel G w e v) :
    ∃ r, av.Rel G w e r ∧ ∀ w', (Op.unary op v).run P w' = .ok r w' := by
  unfold unOut at h
  split at h <;> simp only [ok, Option.some.injEq, Prod.mk.injEq, reduceCtorEq] at h
  all_goals
    obtain ⟨rfl, rfl⟩ := h
    have hv : v = _ := (by first | exact (List.cons.inj hr).1 | exact hr)
    subst hv
    exact ⟨_, rfl, fun w' => by simp [Op.unary, Op.intArith, Op.intBits, Sem.run, subI, bits, notB]⟩
end Go.Proofs.YtkjjegjafpefcaaDoor.R
