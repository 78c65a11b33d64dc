/- Where a byte stands first; plain facts. -/
import Derived.Test.YtmmbedlegmbppaaDoorR25
import Derived.Lib.IndexLaws
namespace Go.Proofs.YtmmbedlegmbppaaDoor.R
open Go Go.RowKit
set_option linter.unusedSimpArgs false
set_option linter.unusedVariables false
abbrev Fld := ByteArray × ByteArray
theorem byte_all (p : UInt8 → Bool) (h : ∀ n : Fin 256, p (UInt8.ofNat n.val) = true) (c : UInt8) : p c = true := by
  have := h ⟨c.toNat, c.toNat_lt⟩
  rwa [UInt8.ofNat_toNat] at this
theorem ltD (x y : Int) : ltI x y = decide (x < y) := rfl
theorem leD (x y : Int) : leI x y = decide (x ≤ y) := rfl
theorem B_at {l : Bs} {i : Nat} (h : i < l.length) : btI (B l) (i : Int) = (l[i].toNat : Int) := by
  rw [B_bt, List.getD_eq_getElem?_getD, List.getElem?_eq_getElem h]; rfl
theorem minI_eq (x y : Int) : minI x y = min x y := by unfold minI; split <;> omega
theorem maxI_eq (x y : Int) : maxI x y = max x y := by unfold maxI; split <;> omega
theorem eqS_self (x : ByteArray) : eqS x x = true := by unfold eqS; exact beq_self_eq_true _
/-- A loop that tells more at more rounds tells the same. -/
theorem iter_up {V R : Type} {f : (V → Option R) → V → Option R} (hf : ∀ r r' v x, (∀ v' y, r v' = some y → r' v' = some y) → f r v = some x → f r' v = some x) : ∀ (n m : Nat) (v : V) (x : R), iter f n v = some x → n ≤ m → iter f m v = some x := by
  intro n
  induction n with
  | zero => intro m v x h; cases h
  | succ n ih =>
    intro m v x h hm
    obtain ⟨m, rfl⟩ : ∃ j, m = j + 1 := ⟨m - 1, by omega⟩
    exact hf _ _ v x (fun v' y hy => ih m v' y hy (by omega)) h
/-- What stands ahead of the first byte of its kind, and what behind it. -/
def cutAt (c : UInt8) : Bs → Option (Bs × Bs)
  | [] => none
  | d :: r => if d = c then some ([], r) else (cutAt c r).map fun p => (d :: p.1, p.2)
theorem cutAt_some {c : UInt8} : ∀ {l a b : Bs}, cutAt c l = some (a, b) → l = a ++ c :: b ∧ ∀ d ∈ a, d ≠ c
  | [], a, b, h => by cases h
  | d :: r, a, b, h => by
    unfold cutAt at h
    by_cases hd : d = c
    · rw [if_pos hd] at h
      obtain ⟨rfl, rfl⟩ := Prod.mk.inj (Option.some.inj h)
      exact ⟨by rw [hd]; rfl, by simp⟩
    · rw [if_neg hd] at h
      cases hr : cutAt c r with
      | none => rw [hr] at h; cases h
      | some p =>
        obtain ⟨p, q⟩ := p
        rw [hr] at h
        obtain ⟨rfl, rfl⟩ := Prod.mk.inj (Option.some.inj h)
        obtain ⟨h1, h2⟩ := cutAt_some hr
        exact ⟨by rw [h1]; rfl, by intro x hx; rcases List.mem_cons.1 hx with rfl | hx; exact hd; exact h2 x hx⟩
theorem cutAt_none {c : UInt8} : ∀ {l : Bs}, cutAt c l = none → ∀ d ∈ l, d ≠ c
  | [], _ => by simp
  | d :: r, h => by
    unfold cutAt at h
    by_cases hd : d = c
    · rw [if_pos hd] at h; cases h
    · rw [if_neg hd] at h
      cases hr : cutAt c r with
      | some p => rw [hr] at h; cases h
      | none => intro x hx; rcases List.mem_cons.1 hx with rfl | hx; exact hd; exact cutAt_none hr x hx
theorem cutAt_of (c : UInt8) (b : Bs) : ∀ a : Bs, (∀ d ∈ a, d ≠ c) → cutAt c (a ++ c :: b) = some (a, b)
  | [], _ => by simp [cutAt]
  | d :: a, h => by
    rw [List.cons_append]
    unfold cutAt
    rw [if_neg (h d (by simp)), cutAt_of c b a (fun x hx => h x (by simp [hx]))]
    rfl
theorem cutAt_no (c : UInt8) (l : Bs) (h : ∀ d ∈ l, d ≠ c) : cutAt c l = none := by
  cases hl : cutAt c l with
  | none => rfl
  | some p =>
    obtain ⟨a, b⟩ := p
    have := (cutAt_some hl).1
    exact absurd rfl (h c (by rw [this]; simp))
theorem index_is (l : Bs) (c : UInt8) : Lib.indexByte l c = match cutAt c l with
    | some (a, _) => (a.length : Int)
    | none => -1 := by
  have hge := Lib.indexByte_ge l c
  cases hl : cutAt c l with
  | none =>
    by_cases h : Lib.indexByte l c = -1
    · exact h
    · have h1 := (Lib.indexByte_some (l := l) (c := c) (o := (Lib.indexByte l c).toNat) (by omega)).1
      exact absurd rfl (cutAt_none hl c (List.mem_of_getElem? h1))
  | some p =>
    obtain ⟨a, b⟩ := p
    obtain ⟨h1, h2⟩ := cutAt_some hl
    have hm : l[a.length]? = some c := by rw [h1, List.getElem?_append_right (Nat.le_refl _)]; simp
    by_cases h : Lib.indexByte l c = -1
    · exact absurd hm (Lib.indexByte_none h a.length)
    · obtain ⟨h3, h4⟩ := Lib.indexByte_some (l := l) (c := c) (o := (Lib.indexByte l c).toNat) (by omega)
      have h5 : ¬ a.length < (Lib.indexByte l c).toNat := fun hlt => h4 _ hlt hm
      have h6 : ¬ (Lib.indexByte l c).toNat < a.length := by
        intro hlt
        generalize (Lib.indexByte l c).toNat = n at h3 hlt
        rw [h1, List.getElem?_append_left hlt] at h3
        exact absurd rfl (h2 c (List.mem_of_getElem? h3))
      show _ = (a.length : Int)
      omega
theorem ne_byte (c d : UInt8) : neI (c.toNat : Int) (d.toNat : Int) = decide (¬ c = d) := by
  rw [neI_dec]
  congr 1
  rw [eq_iff_iff, ← UInt8.toNat_inj]
  omega
theorem eq_byte (c d : UInt8) : eqI (c.toNat : Int) (d.toNat : Int) = decide (c = d) := by
  rw [eqI_dec]
  congr 1
  rw [eq_iff_iff, ← UInt8.toNat_inj]
  omega
end Go.Proofs.YtmmbedlegmbppaaDoor.R
